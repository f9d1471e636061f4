/-
  Plain words on the variables within a term. Conditions: those written in each statement.
-/
import Derived.Test.YtepagfkkjlbipaaGreatKaa
namespace Go.Proofs.YtepagfkkjlbipaaGreat
set_option linter.unusedVariables false
set_option linter.unusedSimpArgs false
inductive InT (T : List TD) : Nat → Nat → Prop
 | self (n : Nat) : InT T n n
 | part (n k i : Nat) (t : TD) (ht : T[n]? = some t) (hk : (k : Int) ∈ prtL t) (h : InT T k i) : InT T n i
def vnum (n : Int) : Int := IntKind.i64.wrap n
def IsV (T : List TD) (n : Nat) (v : Int) : Prop := ∃ (i : Nat) (t : TD), InT T n i ∧ T[i]? = some t ∧ t.kind = 1 ∧ vnum t.n = v
def IsVars (T : List TD) (n : Nat) (l : List Int) : Prop := l.Pairwise (· < ·) ∧ ∀ v, v ∈ l ↔ IsV T n v
theorem sorted_ext : ∀ (l m : List Int), l.Pairwise (· < ·) → m.Pairwise (· < ·) → (∀ v, v ∈ l ↔ v ∈ m) → l = m
 | [], [], _, _, _ => rfl
 | [], y :: m, _, _, h => absurd ((h y).2 (by simp)) (by simp)
 | x :: l, [], _, _, h => absurd ((h x).1 (by simp)) (by simp)
 | x :: l, y :: m, hl, hm, h => by
  rw [List.pairwise_cons] at hl hm
  have hxy : x = y := by
   have h1 := (h x).1 (by simp)
   have h2 := (h y).2 (by simp)
   rw [List.mem_cons] at h1 h2
   rcases h1 with e | e
   ·exact e
   ·rcases h2 with e2 | e2
    ·exact e2.symm
    ·have := hl.1 _ e2
     have := hm.1 _ e
     omega
  subst hxy
  rw [sorted_ext l m hl.2 hm.2 (fun v => ?_)]
  have hv := h v
  rw [List.mem_cons, List.mem_cons] at hv
  constructor
  ·intro q
   rcases hv.1 (.inr q) with e | e
   ·have := hl.1 v q; omega
   ·exact e
  ·intro q
   rcases hv.2 (.inr q) with e | e
   ·have := hm.1 v q; omega
   ·exact e
theorem IsVars.uniq {T : List TD} {n : Nat} {l m : List Int} (hl : IsVars T n l) (hm : IsVars T n m) : l = m :=
 sorted_ext l m hl.1 hm.1 fun v => (hl.2 v).trans (hm.2 v).symm
theorem InT.inv {T : List TD} {n i : Nat} {t : TD} (ht : T[n]? = some t) (h : InT T n i) : i = n ∨ ∃ k : Nat, (k : Int) ∈ prtL t ∧ InT T k i := by
 cases h with
 | self => exact .inl rfl
 | part _ k _ t' ht' hk h =>
  rw [ht] at ht'
  injection ht' with e
  subst e
  exact .inr ⟨k, hk, h⟩
theorem IsV.parts {T : List TD} {n : Nat} {t : TD} (ht : T[n]? = some t) (hk : t.kind ≠ 1) (v : Int) : IsV T n v ↔ ∃ k : Nat, (k : Int) ∈ prtL t ∧ IsV T k v := by
 constructor
 ·rintro ⟨i, u, hi, hu, ku, hv⟩
  rcases hi.inv ht with rfl | ⟨k, hk', hi'⟩
  ·rw [ht] at hu
   injection hu with e
   subst e
   exact absurd ku hk
  ·exact ⟨k, hk', i, u, hi', hu, ku, hv⟩
 ·rintro ⟨k, hk', i, u, hi, hu, ku, hv⟩
  exact ⟨i, u, .part n k i t ht hk' hi, hu, ku, hv⟩
theorem IsV.var {T : List TD} {n : Nat} {t : TD} (ht : T[n]? = some t) (hk : t.kind = 1) (v : Int) : IsV T n v ↔ v = vnum t.n := by
 have hp : prtL t = [] := by unfold prtL; rw [if_neg (by omega), if_neg (by omega), if_neg (by omega)]
 constructor
 ·rintro ⟨i, u, hi, hu, ku, hv⟩
  rcases hi.inv ht with rfl | ⟨k, hk', _⟩
  ·rw [ht] at hu
   injection hu with e
   subst e
   exact hv.symm
  ·rw [hp] at hk'; simp at hk'
 ·rintro rfl
  exact ⟨n, t, .self n, ht, hk, rfl⟩
theorem IsVars.var {T : List TD} {n : Nat} {t : TD} {l : List Int} (h : IsVars T n l) (ht : T[n]? = some t) (hk : t.kind = 1) : l = [vnum t.n] :=
 h.uniq ⟨by simp, fun v => by rw [IsV.var ht hk]; simp⟩
theorem IsVars.const {T : List TD} {n : Nat} {t : TD} {l : List Int} (h : IsVars T n l) (ht : T[n]? = some t) (hk : t.kind = 0) : l = [] :=
 h.uniq ⟨by simp, fun v => by
  rw [IsV.parts ht (by omega)]
  have hp : prtL t = [] := by unfold prtL; rw [if_neg (by omega), if_neg (by omega), if_neg (by omega)]
  rw [hp]
  simp⟩
theorem IsVars.zext {T : List TD} {n k : Nat} {t : TD} {l : List Int} (h : IsVars T n l) (ht : T[n]? = some t) (hk : t.kind = 3) (ha : t.a = k) : IsVars T k l :=
 ⟨h.1, fun v => by
  rw [h.2 v, IsV.parts ht (by omega)]
  have hp : prtL t = [t.a] := by unfold prtL; rw [if_neg (by omega), if_pos hk]
  rw [hp, ha]
  constructor
  ·rintro ⟨j, hj, q⟩
   obtain rfl : j = k := by simp at hj; omega
   exact q
  ·intro q
   exact ⟨k, by simp, q⟩⟩
/-! ### gone over once -/
theorem nodup_le : ∀ (n : Nat) (l : List Nat), l.Nodup → (∀ x ∈ l, x < n) → l.length ≤ n
 | 0, l, _, h => by
  cases l with
  | nil => simp
  | cons x r => have := h x (by simp); omega
 | n + 1, l, hd, h => by
  by_cases hm : n ∈ l
  ·have := nodup_le n (l.erase n) (hd.erase n) (fun x hx => by
    have hx' := (List.Nodup.mem_erase_iff hd).1 hx
    have := h x hx'.2
    omega)
   rw [List.length_erase_of_mem hm] at this
   omega
  ·have := nodup_le n l hd (fun x hx => by
    have := h x hx
    have : x ≠ n := fun e => hm (e ▸ hx)
    omega)
   omega
/-- What is visited behind a term: it, and what is below it, each once. -/
def Went (T : List TD) (n : Nat) (L L' : List Nat) : Prop :=
 ∃ X, L' = L ++ X ∧ L'.Nodup ∧ n ∈ L' ∧ ∀ i ∈ X, i < T.length ∧ InT T n i ∧ ∀ t, T[i]? = some t → ∀ k : Nat, (k : Int) ∈ prtL t → k ∈ L'
/-- .. behind some of its parts. -/
def WentP (T : List TD) (n : Nat) (ps : List Int) (L L' : List Nat) : Prop :=
 ∃ X, L' = (L ++ [n]) ++ X ∧ L'.Nodup ∧ (∀ k : Nat, (k : Int) ∈ ps → k ∈ L') ∧ ∀ i ∈ X, i < T.length ∧ InT T n i ∧ ∀ t, T[i]? = some t → ∀ k : Nat, (k : Int) ∈ prtL t → k ∈ L'
theorem WentP.zero {T : List TD} {n : Nat} {L : List Nat} (hL : L.Nodup) (hn : n ∉ L) : WentP T n [] L (L ++ [n]) :=
 ⟨[], by simp, by rw [List.nodup_append]; exact ⟨hL, by simp, fun a ha b hb => by simp at hb; subst hb; exact fun e => hn (e ▸ ha)⟩, by simp, by simp⟩
theorem WentP.step {T : List TD} {n k : Nat} {t : TD} {ps : List Int} {L L' L'' : List Nat} (h : WentP T n ps L L') (ht : T[n]? = some t) (hk : (k : Int) ∈ prtL t) (h2 : Went T k L' L'') : WentP T n (ps ++ [(k : Int)]) L L'' := by
 obtain ⟨X, rfl, h3, h4, h5⟩ := h
 obtain ⟨Y, rfl, h6, h7, h8⟩ := h2
 refine ⟨X ++ Y, by simp, h6, fun j hj => ?_, fun i hi => ?_⟩
 ·rw [List.mem_append] at hj
  rcases hj with q | q
  ·exact List.mem_append.2 (.inl (h4 j q))
  ·obtain rfl : j = k := by simp at q; omega
   exact h7
 ·rcases List.mem_append.1 hi with q | q
  ·obtain ⟨a, b, c⟩ := h5 i q
   exact ⟨a, b, fun u hu j hj => List.mem_append.2 (.inl (c u hu j hj))⟩
  ·obtain ⟨a, b, c⟩ := h8 i q
   exact ⟨a, .part n k i t ht hk b, c⟩
theorem WentP.done {T : List TD} {n : Nat} {t : TD} {L L' : List Nat} (h : WentP T n (prtL t) L L') (ht : T[n]? = some t) : Went T n L L' := by
 obtain ⟨X, rfl, h3, h4, h5⟩ := h
 refine ⟨n :: X, by simp, h3, by simp, fun i hi => ?_⟩
 rcases List.mem_cons.1 hi with rfl | q
 ·refine ⟨(List.getElem?_eq_some_iff.1 ht).1, .self _, fun u hu k hk => ?_⟩
  rw [ht] at hu
  injection hu with e
  subst e
  exact h4 k hk
 ·exact h5 i q
theorem Went.nodup {T : List TD} {n : Nat} {L L' : List Nat} (h : Went T n L L') : L'.Nodup := by
 obtain ⟨X, _, h1, _⟩ := h
 exact h1
theorem Went.lt {T : List TD} {n : Nat} {L L' : List Nat} (h : Went T n L L') (hL : ∀ i ∈ L, i < T.length) : ∀ i ∈ L', i < T.length := by
 obtain ⟨X, rfl, _, _, h3⟩ := h
 intro i hi
 rcases List.mem_append.1 hi with q | q
 ·exact hL i q
 ·exact (h3 i q).1
theorem WentP.nodup {T : List TD} {n : Nat} {ps : List Int} {L L' : List Nat} (h : WentP T n ps L L') : L'.Nodup := by
 obtain ⟨X, _, h1, _⟩ := h
 exact h1
theorem WentP.lt {T : List TD} {n : Nat} {ps : List Int} {L L' : List Nat} (h : WentP T n ps L L') (hn : n < T.length) (hL : ∀ i ∈ L, i < T.length) : ∀ i ∈ L', i < T.length := by
 obtain ⟨X, rfl, _, _, h3⟩ := h
 intro i hi
 rcases List.mem_append.1 hi with q | q
 ·rcases List.mem_append.1 q with q | q
  ·exact hL i q
  ·simp at q; omega
 ·exact (h3 i q).1
/-- From nothing: just what is below. -/
theorem Went.all {T : List TD} {n : Nat} {L : List Nat} (h : Went T n [] L) : ∀ i, i ∈ L ↔ InT T n i := by
 obtain ⟨X, hX, h1, h2, h3⟩ := h
 rw [List.nil_append] at hX
 subst hX
 have key : ∀ m i, InT T m i → m ∈ L → i ∈ L := by
  intro m i q
  induction q with
  | self => exact fun h => h
  | part m k i t ht hk q ih => exact fun hm => ih ((h3 m hm).2.2 t ht k hk)
 intro i
 exact ⟨fun q => (h3 i q).2.1, fun q => key n i q h2⟩
def varAt (T : List TD) (i : Nat) : List Int := match T[i]? with
 | some t => if t.kind = 1 then [vnum t.n] else []
 | none => []
def varsOf (T : List TD) (L : List Nat) : List Int := L.flatMap (varAt T)
def U64 (x : Int) : Prop := 0 ≤ x ∧ x < 18446744073709551616
end Go.Proofs.YtepagfkkjlbipaaGreat
