/-
  Plain words on terms in a pool: which may be put, what a pool is behind it. Conditions: those written in each statement.
  Plain words on the variables within a term. Conditions: those written in each statement.
  A map's entry made, and then filled: m[k] = v where the value is reckoned between the two; a key that was not there. Conditions: those written in each statement.
  A pool in memory: its terms, their depths, its two maps; what changes of it changes alone. Conditions: those written in each statement.
  Contracts: bits.Width, New, has, Len, Get, Deep, Wide. Conditions: those written in each statement.
  Terms compared; laws for taking loads first in a region that draws. Conditions: those written in each statement.
-/
import Derived.Test.YtfjflefgclfbfaaGreatKa
import Derived.WideKeyEntry
import Derived.Test.YtfjflefgclfbfaaGreatProg
import Derived.Laws.Tables
import Derived.RegionTactic
import Derived.Laws.StructEq
section
namespace Go.Proofs.YtfjflefgclfbfaaGreat
set_option linter.unusedVariables false
set_option linter.unusedSimpArgs false
structure TD where
  kind : Int
  op : Int
  w : Int
  n : Int
  a : Int
  b : Int
  c : Int
deriving DecidableEq
def TD.cells (x : TD) : List Value := [.int .i8 x.kind, .int .i8 x.op, .int .i8 x.w, .int .u64 x.n, .int .i64 x.a, .int .i64 x.b, .int .i64 x.c]
/-- A term's parts. -/
def prtL (t : TD) : List Int := if t.kind = 2 ∨ t.kind = 4 then [t.a, t.b] else if t.kind = 3 then [t.a] else if t.kind = 5 then [t.a, t.b, t.c] else []
def likeT (t : TD) : TD :=
  if t.kind = 0 then ⟨0, 0, 0, t.n, 0, 0, 0⟩
  else if t.kind = 1 then ⟨1, 0, t.w, t.n, 0, 0, 0⟩
  else if t.kind = 2 then ⟨2, t.op, t.w, 0, t.a, t.b, 0⟩
  else if t.kind = 4 then ⟨4, t.op, t.w, 0, t.a, t.b, 0⟩
  else if t.kind = 3 then ⟨3, 0, t.w, 0, t.a, 0, 0⟩
  else if t.kind = 5 then ⟨5, 0, 0, 0, t.a, t.b, t.c⟩
  else ⟨t.kind, 0, 0, 0, 0, 0, 0⟩
def wdB (w : Int) : Bool := w == 8 || (w == 16 || (w == 32 || w == 64))
/-- What else a kind asks. -/
def askT (t : TD) : Bool :=
  if t.kind = 0 then true
  else if t.kind = 1 then wdB t.w
  else if t.kind = 2 then (t.w == 32 || t.w == 64) && (decide (0 ≤ t.op) && decide (t.op ≤ 12))
  else if t.kind = 4 then (t.w == 32 || t.w == 64) && (decide (0 ≤ t.op) && decide (t.op ≤ 10))
  else if t.kind = 3 then t.w != 64 && wdB t.w
  else decide (t.kind = 5)
def okF (t : TD) : Bool := askT t && decide (t = likeT t)
def hasB (T : List TD) (n : Int) : Bool := decide (0 ≤ n) && decide (n < T.length)
def varB (n : Int) (x : TD) : Bool := x.kind == 1 && x.n == n
def wideF (T : List TD) (n : Int) : Option Int := (T.find? (varB n)).map (·.w)
def clashB (T : List TD) (t : TD) : Bool := t.kind == 1 && (match wideF T t.n with | some w => w != t.w | none => false)
def okP (T : List TD) (t : TD) : Bool := okF t && ((prtL t).all (hasB T) && !clashB T t)
def dmax (D : List Int) (l : List Int) : Int := l.foldl (fun d n => max d (D.getD n.toNat 0 + 1)) 1
structure PS where
  T : List TD
  D : List Int
def atT (T : List TD) (t : TD) : Option Nat := T.findIdx? (fun x => decide (x = t))
def putP (p : PS) (t : TD) : PS := if okP p.T t = true ∧ atT p.T t = none ∧ p.T.length < 4000 ∧ dmax p.D (prtL t) ≤ 256 then ⟨p.T ++ [t], p.D ++ [dmax p.D (prtL t)]⟩ else p
def putN (p : PS) (t : TD) : Int × Int :=
  if okP p.T t = false then (0, 2) else match atT p.T t with
    | some i => ((i : Int), 0)
    | none => if 4000 ≤ p.T.length ∨ 256 < dmax p.D (prtL t) then (0, 260) else ((p.T.length : Int), 0)
theorem atT_some {T : List TD} {t : TD} {i : Nat} (h : atT T t = some i) : T[i]? = some t := by
  unfold atT at h
  obtain ⟨hi, hp, _⟩ := List.findIdx?_eq_some_iff_getElem.1 h
  simp at hp
  rw [List.getElem?_eq_getElem hi, hp]
theorem atT_none {T : List TD} {t : TD} (h : atT T t = none) : t ∉ T := by
  intro hm
  unfold atT at h
  rw [List.findIdx?_eq_none_iff] at h
  have := h t hm
  simp at this
theorem atT_mem {T : List TD} {t : TD} (h : t ∈ T) : ∃ i, atT T t = some i := by
  cases e : atT T t with
  | some i => exact ⟨i, rfl⟩
  | none => exact absurd h (atT_none e)
/-- A pool that came of puts. -/
structure WfP (p : PS) : Prop where
  len : p.D.length = p.T.length
  few : p.T.length ≤ 4000
  ok : ∀ (i : Nat) (t : TD), p.T[i]? = some t → okF t = true
  part : ∀ (i : Nat) (t : TD), p.T[i]? = some t → ∀ k ∈ prtL t, 0 ≤ k ∧ k < (i : Int)
  deep : ∀ (i : Nat) (t : TD), p.T[i]? = some t → p.D[i]? = some (dmax p.D (prtL t))
  low : ∀ d ∈ p.D, 1 ≤ d ∧ d ≤ 256
  once : ∀ (i j : Nat) (t : TD), p.T[i]? = some t → p.T[j]? = some t → i = j
  wide : ∀ (i j : Nat) (t u : TD), p.T[i]? = some t → p.T[j]? = some u → t.kind = 1 → u.kind = 1 → t.n = u.n → t.w = u.w
theorem WfP.nil : WfP ⟨[], []⟩ := ⟨rfl, by simp, by simp, by simp, by simp, by simp, by simp, by simp⟩
theorem dmax_ge (D : List Int) : ∀ (l : List Int) (d : Int), d ≤ l.foldl (fun d n => max d (D.getD n.toNat 0 + 1)) d
  | [], d => Int.le_refl _
  | x :: r, d => Int.le_trans (Int.le_max_left _ _) (dmax_ge D r _)
theorem one_le_dmax (D : List Int) (l : List Int) : 1 ≤ dmax D l := dmax_ge D l 1
theorem dmax_app {D : List Int} (d' : Int) : ∀ (l : List Int), (∀ k ∈ l, 0 ≤ k ∧ k < (D.length : Int)) → ∀ a, l.foldl (fun d n => max d ((D ++ [d']).getD n.toNat 0 + 1)) a = l.foldl (fun d n => max d (D.getD n.toNat 0 + 1)) a := by
  intro l
  induction l with
  | nil => intro _ a; rfl
  | cons x r ih =>
    intro h a
    have hx := h x (by simp)
    rw [List.foldl_cons, List.foldl_cons, ih (fun k hk => h k (by simp [hk]))]
    congr 2
    rw [List.getD_eq_getElem?_getD, List.getD_eq_getElem?_getD, List.getElem?_append_left (by omega)]
theorem find_app {T : List TD} {n : Int} {t : TD} (h : wideF T n ≠ none) : wideF (T ++ [t]) n = wideF T n := by
  unfold wideF at h ⊢
  rw [List.find?_append]
  cases e : T.find? (varB n) with
  | none => rw [e] at h; exact absurd rfl h
  | some x => rfl
theorem wideF_new {T : List TD} {n : Int} {t : TD} (h : wideF T n = none) : wideF (T ++ [t]) n = if varB n t then some t.w else none := by
  unfold wideF at h ⊢
  rw [List.find?_append]
  cases e : T.find? (varB n) with
  | none =>
    rw [List.find?_singleton]
    cases varB n t <;> rfl
  | some x => rw [e] at h; cases h
theorem wideF_some {T : List TD} {n w : Int} (h : wideF T n = some w) : ∃ (i : Nat) (t : TD), T[i]? = some t ∧ t.kind = 1 ∧ t.n = n ∧ t.w = w := by
  unfold wideF at h
  rw [Option.map_eq_some_iff] at h
  obtain ⟨t, ht, rfl⟩ := h
  have h1 := List.mem_of_find?_eq_some ht
  have h2 := List.find?_some ht
  obtain ⟨i, hi⟩ := List.getElem?_of_mem h1
  unfold varB at h2
  simp at h2
  exact ⟨i, t, hi, h2.1, h2.2, rfl⟩
theorem wideF_none {T : List TD} {n : Int} (h : wideF T n = none) : ∀ t ∈ T, t.kind = 1 → t.n ≠ n := by
  intro t ht hk hn
  unfold wideF at h
  rw [Option.map_eq_none_iff, List.find?_eq_none] at h
  have := h t ht
  unfold varB at this
  simp [hk, hn] at this
theorem WfP.wideF {p : PS} (h : WfP p) {i : Nat} {t : TD} (ht : p.T[i]? = some t) (hk : t.kind = 1) : wideF p.T t.n = some t.w := by
  cases e : Go.Proofs.YtfjflefgclfbfaaGreat.wideF p.T t.n with
  | none => exact absurd rfl (wideF_none e t (List.mem_of_getElem? ht) hk)
  | some w =>
    obtain ⟨j, u, hu, hku, hn, hw⟩ := wideF_some e
    rw [← hw, h.wide i j t u ht hu hk hku hn.symm]
theorem okP_parts {T : List TD} {t : TD} (h : okP T t = true) : okF t = true ∧ (∀ k ∈ prtL t, 0 ≤ k ∧ k < (T.length : Int)) ∧ clashB T t = false := by
  unfold okP at h
  simp only [Bool.and_eq_true, List.all_eq_true, Bool.not_eq_true'] at h
  refine ⟨h.1, fun k hk => ?_, h.2.2⟩
  have := h.2.1 k hk
  unfold hasB at this
  simp at this
  exact this
theorem putP_cases (p : PS) (t : TD) : (putP p t = p ∧ ((okP p.T t = false ∧ putN p t = (0, 2)) ∨ (okP p.T t = true ∧ ∃ i : Nat, p.T[i]? = some t ∧ atT p.T t = some i ∧ putN p t = ((i : Int), 0)) ∨ (okP p.T t = true ∧ atT p.T t = none ∧ (4000 ≤ p.T.length ∨ 256 < dmax p.D (prtL t)) ∧ putN p t = (0, 260)))) ∨
    (okP p.T t = true ∧ atT p.T t = none ∧ p.T.length < 4000 ∧ dmax p.D (prtL t) ≤ 256 ∧ putP p t = ⟨p.T ++ [t], p.D ++ [dmax p.D (prtL t)]⟩ ∧ putN p t = ((p.T.length : Int), 0)) := by
  unfold putP putN
  cases ho : okP p.T t
  · exact .inl ⟨by simp, .inl ⟨rfl, by simp⟩⟩
  · cases ha : atT p.T t with
    | some i => exact .inl ⟨by simp, .inr (.inl ⟨rfl, i, atT_some ha, rfl, by simp⟩)⟩
    | none =>
      by_cases hl : 4000 ≤ p.T.length ∨ 256 < dmax p.D (prtL t)
      · refine .inl ⟨?_, .inr (.inr ⟨rfl, rfl, hl, ?_⟩)⟩
        · rw [if_neg (by rintro ⟨_, _, h1, h2⟩; omega)]
        · simp [hl]
      · refine .inr ⟨rfl, rfl, by omega, by omega, ?_, ?_⟩
        · rw [if_pos ⟨rfl, rfl, by omega, by omega⟩]
        · simp [hl]
theorem WfP.put {p : PS} (h : WfP p) (t : TD) : WfP (putP p t) := by
  rcases putP_cases p t with ⟨e, _⟩ | ⟨ho, ha, hl, hd, e, _⟩
  · rw [e]; exact h
  · rw [e]
    obtain ⟨h1, h2, h3⟩ := okP_parts ho
    have hnm := atT_none ha
    have hlen := h.len
    have key : ∀ (i : Nat) (u : TD), (p.T ++ [t])[i]? = some u → (p.T[i]? = some u ∧ i < p.T.length) ∨ (i = p.T.length ∧ u = t) := by
      intro i u hu
      rcases Nat.lt_trichotomy i p.T.length with hi | hi | hi
      · rw [List.getElem?_append_left hi] at hu; exact .inl ⟨hu, hi⟩
      · subst hi
        simp at hu
        exact .inr ⟨rfl, hu.symm⟩
      · rw [List.getElem?_eq_none (by simp; omega)] at hu; cases hu
    have dm : ∀ l : List Int, (∀ k ∈ l, 0 ≤ k ∧ k < (p.T.length : Int)) → dmax (p.D ++ [dmax p.D (prtL t)]) l = dmax p.D l := fun l hl => dmax_app (D := p.D) (dmax p.D (prtL t)) l (fun k hk => by have := hl k hk; omega) 1
    have pl : ∀ (i : Nat) (u : TD), p.T[i]? = some u → ∀ k ∈ prtL u, 0 ≤ k ∧ k < (p.T.length : Int) := fun i u hu k hk => by
      have := h.part i u hu k hk
      have := (List.getElem?_eq_some_iff.1 hu).1
      omega
    refine ⟨by simp [hlen], by simp; omega, fun i u hu => ?_, fun i u hu => ?_, fun i u hu => ?_, fun d hd' => ?_, fun i j u hi hj => ?_, fun i j u v hi hj ku kv hn => ?_⟩
    · rcases key i u hu with ⟨q, _⟩ | ⟨_, rfl⟩
      · exact h.ok i u q
      · exact h1
    · rcases key i u hu with ⟨q, _⟩ | ⟨rfl, rfl⟩
      · exact h.part i u q
      · exact h2
    · dsimp only at hu ⊢
      rcases key i u hu with ⟨q, hi⟩ | ⟨rfl, rfl⟩
      · rw [List.getElem?_append_left (by omega), dm _ (pl i u q)]
        exact h.deep i u q
      · rw [dm _ h2, ← hlen]
        simp
    · dsimp only at hd'
      rw [List.mem_append, List.mem_singleton] at hd'
      rcases hd' with q | rfl
      · exact h.low d q
      · exact ⟨one_le_dmax _ _, hd⟩
    · rcases key i u hi with ⟨q1, l1⟩ | ⟨rfl, rfl⟩ <;> rcases key j _ hj with ⟨q2, l2⟩ | ⟨rfl, e2⟩
      · exact h.once i j u q1 q2
      · subst e2; exact absurd (List.mem_of_getElem? q1) hnm
      · exact absurd (List.mem_of_getElem? q2) hnm
      · rfl
    · have cl : ∀ (j : Nat) (v : TD), p.T[j]? = some v → v.kind = 1 → t.kind = 1 → v.n = t.n → v.w = t.w := by
        intro j v hv kv kt hnn
        have := h.wideF hv kv
        unfold clashB at h3
        rw [← hnn, this, kt] at h3
        simpa using h3
      rcases key i u hi with ⟨q1, l1⟩ | ⟨rfl, rfl⟩ <;> rcases key j v hj with ⟨q2, l2⟩ | ⟨rfl, rfl⟩
      · exact h.wide i j u v q1 q2 ku kv hn
      · exact cl i u q1 ku kv hn
      · exact (cl j v q2 kv ku hn.symm).symm
      · rfl
theorem okP_there {p : PS} (h : WfP p) {i : Nat} {t : TD} (ht : p.T[i]? = some t) : okP p.T t = true := by
  have hi := (List.getElem?_eq_some_iff.1 ht).1
  unfold okP
  simp only [Bool.and_eq_true, List.all_eq_true, Bool.not_eq_true']
  refine ⟨h.ok i t ht, fun k hk => ?_, ?_⟩
  · have := h.part i t ht k hk
    unfold hasB
    simp
    omega
  · unfold clashB
    by_cases hk : t.kind = 1
    · rw [h.wideF ht hk]; simp
    · have : (t.kind == 1) = false := by simpa using hk
      rw [this]; rfl
/-- What is there already is put again at its number, and nothing turns. -/
theorem put_there {p : PS} (h : WfP p) {i : Nat} {t : TD} (ht : p.T[i]? = some t) : putP p t = p ∧ putN p t = ((i : Int), 0) := by
  have ho := okP_there h ht
  obtain ⟨j, hj⟩ := atT_mem (List.mem_of_getElem? ht)
  have hij := h.once i j t ht (atT_some hj)
  subst hij
  rcases putP_cases p t with ⟨e, ⟨o, q⟩ | ⟨_, k, hk, ha, q⟩ | ⟨_, ha, _⟩⟩ | ⟨_, ha, _⟩
  · rw [ho] at o; cases o
  · rw [hj] at ha; injection ha with ha; subst ha; exact ⟨e, q⟩
  · rw [hj] at ha; cases ha
  · rw [hj] at ha; cases ha
/-- Terms put one behind the other. -/
def putAll (p : PS) : List TD → PS
  | [] => p
  | t :: r => putAll (putP p t) r
theorem WfP.putAll {p : PS} (h : WfP p) : ∀ l, WfP (putAll p l) := by
  intro l
  induction l generalizing p with
  | nil => exact h
  | cons t r ih => exact ih (h.put t)
end Go.Proofs.YtfjflefgclfbfaaGreat
end
section
namespace Go.Proofs.YtfjflefgclfbfaaGreat
set_option linter.unusedVariables false
set_option linter.unusedSimpArgs false
inductive InT (T : List TD) : Nat → Nat → Prop
  | self (n : Nat) : InT T n n
  | part (n k i : Nat) (t : TD) (ht : T[n]? = some t) (hk : (k : Int) ∈ prtL t) (h : InT T k i) : InT T n i
def vnum (n : Int) : Int := IntKind.i64.wrap n
def IsV (T : List TD) (n : Nat) (v : Int) : Prop := ∃ (i : Nat) (t : TD), InT T n i ∧ T[i]? = some t ∧ t.kind = 1 ∧ vnum t.n = v
def IsVars (T : List TD) (n : Nat) (l : List Int) : Prop := l.Pairwise (· < ·) ∧ ∀ v, v ∈ l ↔ IsV T n v
theorem sorted_ext : ∀ (l m : List Int), l.Pairwise (· < ·) → m.Pairwise (· < ·) → (∀ v, v ∈ l ↔ v ∈ m) → l = m
  | [], [], _, _, _ => rfl
  | [], y :: m, _, _, h => absurd ((h y).2 (by simp)) (by simp)
  | x :: l, [], _, _, h => absurd ((h x).1 (by simp)) (by simp)
  | x :: l, y :: m, hl, hm, h => by
    rw [List.pairwise_cons] at hl hm
    have hxy : x = y := by
      have h1 := (h x).1 (by simp)
      have h2 := (h y).2 (by simp)
      rw [List.mem_cons] at h1 h2
      rcases h1 with e | e
      · exact e
      · rcases h2 with e2 | e2
        · exact e2.symm
        · have := hl.1 _ e2
          have := hm.1 _ e
          omega
    subst hxy
    rw [sorted_ext l m hl.2 hm.2 (fun v => ?_)]
    have hv := h v
    rw [List.mem_cons, List.mem_cons] at hv
    constructor
    · intro q
      rcases hv.1 (.inr q) with e | e
      · have := hl.1 v q; omega
      · exact e
    · intro q
      rcases hv.2 (.inr q) with e | e
      · have := hm.1 v q; omega
      · exact e
theorem IsVars.uniq {T : List TD} {n : Nat} {l m : List Int} (hl : IsVars T n l) (hm : IsVars T n m) : l = m :=
  sorted_ext l m hl.1 hm.1 fun v => (hl.2 v).trans (hm.2 v).symm
theorem InT.inv {T : List TD} {n i : Nat} {t : TD} (ht : T[n]? = some t) (h : InT T n i) : i = n ∨ ∃ k : Nat, (k : Int) ∈ prtL t ∧ InT T k i := by
  cases h with
  | self => exact .inl rfl
  | part _ k _ t' ht' hk h =>
    rw [ht] at ht'
    injection ht' with e
    subst e
    exact .inr ⟨k, hk, h⟩
theorem IsV.parts {T : List TD} {n : Nat} {t : TD} (ht : T[n]? = some t) (hk : t.kind ≠ 1) (v : Int) : IsV T n v ↔ ∃ k : Nat, (k : Int) ∈ prtL t ∧ IsV T k v := by
  constructor
  · rintro ⟨i, u, hi, hu, ku, hv⟩
    rcases hi.inv ht with rfl | ⟨k, hk', hi'⟩
    · rw [ht] at hu
      injection hu with e
      subst e
      exact absurd ku hk
    · exact ⟨k, hk', i, u, hi', hu, ku, hv⟩
  · rintro ⟨k, hk', i, u, hi, hu, ku, hv⟩
    exact ⟨i, u, .part n k i t ht hk' hi, hu, ku, hv⟩
theorem IsV.var {T : List TD} {n : Nat} {t : TD} (ht : T[n]? = some t) (hk : t.kind = 1) (v : Int) : IsV T n v ↔ v = vnum t.n := by
  have hp : prtL t = [] := by unfold prtL; rw [if_neg (by omega), if_neg (by omega), if_neg (by omega)]
  constructor
  · rintro ⟨i, u, hi, hu, ku, hv⟩
    rcases hi.inv ht with rfl | ⟨k, hk', _⟩
    · rw [ht] at hu
      injection hu with e
      subst e
      exact hv.symm
    · rw [hp] at hk'; simp at hk'
  · rintro rfl
    exact ⟨n, t, .self n, ht, hk, rfl⟩
theorem IsVars.var {T : List TD} {n : Nat} {t : TD} {l : List Int} (h : IsVars T n l) (ht : T[n]? = some t) (hk : t.kind = 1) : l = [vnum t.n] :=
  h.uniq ⟨by simp, fun v => by rw [IsV.var ht hk]; simp⟩
theorem IsVars.const {T : List TD} {n : Nat} {t : TD} {l : List Int} (h : IsVars T n l) (ht : T[n]? = some t) (hk : t.kind = 0) : l = [] :=
  h.uniq ⟨by simp, fun v => by
    rw [IsV.parts ht (by omega)]
    have hp : prtL t = [] := by unfold prtL; rw [if_neg (by omega), if_neg (by omega), if_neg (by omega)]
    rw [hp]
    simp⟩
theorem IsVars.zext {T : List TD} {n k : Nat} {t : TD} {l : List Int} (h : IsVars T n l) (ht : T[n]? = some t) (hk : t.kind = 3) (ha : t.a = k) : IsVars T k l :=
  ⟨h.1, fun v => by
    rw [h.2 v, IsV.parts ht (by omega)]
    have hp : prtL t = [t.a] := by unfold prtL; rw [if_neg (by omega), if_pos hk]
    rw [hp, ha]
    constructor
    · rintro ⟨j, hj, q⟩
      obtain rfl : j = k := by simp at hj; omega
      exact q
    · intro q
      exact ⟨k, by simp, q⟩⟩
/-! ### gone over once -/
theorem nodup_le : ∀ (n : Nat) (l : List Nat), l.Nodup → (∀ x ∈ l, x < n) → l.length ≤ n
  | 0, l, _, h => by
    cases l with
    | nil => simp
    | cons x r => have := h x (by simp); omega
  | n + 1, l, hd, h => by
    by_cases hm : n ∈ l
    · have := nodup_le n (l.erase n) (hd.erase n) (fun x hx => by
        have hx' := (List.Nodup.mem_erase_iff hd).1 hx
        have := h x hx'.2
        omega)
      rw [List.length_erase_of_mem hm] at this
      omega
    · have := nodup_le n l hd (fun x hx => by
        have := h x hx
        have : x ≠ n := fun e => hm (e ▸ hx)
        omega)
      omega
/-- What is visited behind a term: it, and what is below it, each once. -/
def Went (T : List TD) (n : Nat) (L L' : List Nat) : Prop :=
  ∃ X, L' = L ++ X ∧ L'.Nodup ∧ n ∈ L' ∧ ∀ i ∈ X, i < T.length ∧ InT T n i ∧ ∀ t, T[i]? = some t → ∀ k : Nat, (k : Int) ∈ prtL t → k ∈ L'
/-- .. behind some of its parts. -/
def WentP (T : List TD) (n : Nat) (ps : List Int) (L L' : List Nat) : Prop :=
  ∃ X, L' = (L ++ [n]) ++ X ∧ L'.Nodup ∧ (∀ k : Nat, (k : Int) ∈ ps → k ∈ L') ∧ ∀ i ∈ X, i < T.length ∧ InT T n i ∧ ∀ t, T[i]? = some t → ∀ k : Nat, (k : Int) ∈ prtL t → k ∈ L'
theorem WentP.zero {T : List TD} {n : Nat} {L : List Nat} (hL : L.Nodup) (hn : n ∉ L) : WentP T n [] L (L ++ [n]) :=
  ⟨[], by simp, by rw [List.nodup_append]; exact ⟨hL, by simp, fun a ha b hb => by simp at hb; subst hb; exact fun e => hn (e ▸ ha)⟩, by simp, by simp⟩
theorem WentP.step {T : List TD} {n k : Nat} {t : TD} {ps : List Int} {L L' L'' : List Nat} (h : WentP T n ps L L') (ht : T[n]? = some t) (hk : (k : Int) ∈ prtL t) (h2 : Went T k L' L'') : WentP T n (ps ++ [(k : Int)]) L L'' := by
  obtain ⟨X, rfl, h3, h4, h5⟩ := h
  obtain ⟨Y, rfl, h6, h7, h8⟩ := h2
  refine ⟨X ++ Y, by simp, h6, fun j hj => ?_, fun i hi => ?_⟩
  · rw [List.mem_append] at hj
    rcases hj with q | q
    · exact List.mem_append.2 (.inl (h4 j q))
    · obtain rfl : j = k := by simp at q; omega
      exact h7
  · rcases List.mem_append.1 hi with q | q
    · obtain ⟨a, b, c⟩ := h5 i q
      exact ⟨a, b, fun u hu j hj => List.mem_append.2 (.inl (c u hu j hj))⟩
    · obtain ⟨a, b, c⟩ := h8 i q
      exact ⟨a, .part n k i t ht hk b, c⟩
theorem WentP.done {T : List TD} {n : Nat} {t : TD} {L L' : List Nat} (h : WentP T n (prtL t) L L') (ht : T[n]? = some t) : Went T n L L' := by
  obtain ⟨X, rfl, h3, h4, h5⟩ := h
  refine ⟨n :: X, by simp, h3, by simp, fun i hi => ?_⟩
  rcases List.mem_cons.1 hi with rfl | q
  · refine ⟨(List.getElem?_eq_some_iff.1 ht).1, .self _, fun u hu k hk => ?_⟩
    rw [ht] at hu
    injection hu with e
    subst e
    exact h4 k hk
  · exact h5 i q
theorem Went.nodup {T : List TD} {n : Nat} {L L' : List Nat} (h : Went T n L L') : L'.Nodup := by
  obtain ⟨X, _, h1, _⟩ := h
  exact h1
theorem Went.lt {T : List TD} {n : Nat} {L L' : List Nat} (h : Went T n L L') (hL : ∀ i ∈ L, i < T.length) : ∀ i ∈ L', i < T.length := by
  obtain ⟨X, rfl, _, _, h3⟩ := h
  intro i hi
  rcases List.mem_append.1 hi with q | q
  · exact hL i q
  · exact (h3 i q).1
theorem WentP.nodup {T : List TD} {n : Nat} {ps : List Int} {L L' : List Nat} (h : WentP T n ps L L') : L'.Nodup := by
  obtain ⟨X, _, h1, _⟩ := h
  exact h1
theorem WentP.lt {T : List TD} {n : Nat} {ps : List Int} {L L' : List Nat} (h : WentP T n ps L L') (hn : n < T.length) (hL : ∀ i ∈ L, i < T.length) : ∀ i ∈ L', i < T.length := by
  obtain ⟨X, rfl, _, _, h3⟩ := h
  intro i hi
  rcases List.mem_append.1 hi with q | q
  · rcases List.mem_append.1 q with q | q
    · exact hL i q
    · simp at q; omega
  · exact (h3 i q).1
/-- From nothing: just what is below. -/
theorem Went.all {T : List TD} {n : Nat} {L : List Nat} (h : Went T n [] L) : ∀ i, i ∈ L ↔ InT T n i := by
  obtain ⟨X, hX, h1, h2, h3⟩ := h
  rw [List.nil_append] at hX
  subst hX
  have key : ∀ m i, InT T m i → m ∈ L → i ∈ L := by
    intro m i q
    induction q with
    | self => exact fun h => h
    | part m k i t ht hk q ih => exact fun hm => ih ((h3 m hm).2.2 t ht k hk)
  intro i
  exact ⟨fun q => (h3 i q).2.1, fun q => key n i q h2⟩
def varAt (T : List TD) (i : Nat) : List Int := match T[i]? with
  | some t => if t.kind = 1 then [vnum t.n] else []
  | none => []
def varsOf (T : List TD) (L : List Nat) : List Int := L.flatMap (varAt T)
def U64 (x : Int) : Prop := 0 ≤ x ∧ x < 18446744073709551616
end Go.Proofs.YtfjflefgclfbfaaGreat
end
section
namespace Go.Proofs.YtfjflefgclfbfaaGreat
open Go.RowKit
set_option linter.unusedVariables false
set_option linter.unusedSimpArgs false
/-- The stamps of a map's entries are lesser than its clock. -/
def Stamped (w : World) (b : Nat) : Prop := ∃ es clock, w.heap[b]? = some (.map es clock) ∧ ∀ e ∈ es.toList, e.born < clock
section
variable {κ : Type} [DecidableEq κ] {P : Program} {k : TypeId} {enc : κ → Value} {V : κ → Prop} {w w' : World} {b n : Nat} {f : κ → Option Value}
omit [DecidableEq κ] in
theorem Stamped.new (w : World) : Stamped (w.alloc (.map #[] 0)) w.heap.size := ⟨#[], 0, (MapKept.heap_alloc w _).1, by simp⟩
omit [DecidableEq κ] in
theorem Stamped.block_ (h : Stamped w b) (hb : w'.heap[b]? = w.heap[b]?) : Stamped w' b := by
  obtain ⟨es, c, h1, h2⟩ := h
  exact ⟨es, c, hb.trans h1, h2⟩
/-- The entry, and the store into it, at a key that is not there. -/
theorem MapIs.entry {t e : TypeId} (h : MapIs P k enc V w b n f) (hst : Stamped w b) (E : KeyEnc P k enc V) (ht : P.underlying t = some (.map k e)) (z : Value) (hz : ∀ w, (zeroValue e).run P w = .ok z w) (x : κ) (hx : V x) (hf : f x = none) :
    ∃ (c : Nat) (w1 : World), (Instr.mapEntry t (.map (some b)) (enc x)).run P w = .ok (.tuple #[z, goInt c]) w1 ∧ w.grownBy w1 (some b) ∧
      ∀ val, ∃ w2, (Instr.entryStore t (.map (some b)) (goInt c) val).run P w1 = .ok () w2 ∧ MapIs P k enc V w2 b (n + 1) (putF f x val) ∧ Stamped w2 b ∧ w.grownBy w2 (some b) := by
  obtain ⟨es, clock, hb, hs, hd, hv, hk⟩ := h
  obtain ⟨es', clock', hb', hlt⟩ := hst
  rw [hb] at hb'
  injection hb' with hb'
  injection hb' with h1 h2
  subst h1 h2
  obtain ⟨l, hl⟩ := E.reads x hx
  have hgr : ∀ o, w.grownBy (ChangeMaps.setBlock w b o) (some b) := fun o => ⟨rfl, rfl, rfl, by simp [ChangeMaps.setBlock], fun i _ hi => ChangeMaps.heap_setBlock_other hb _ (fun e => hi (by rw [e]))⟩
  rcases E.keyed.find w hl es.toList (MapIs.keys E hv) with ⟨h1, h2⟩ | ⟨j, e0, h1, h2, h3⟩
  · refine ⟨clock, ChangeMaps.setBlock w b (.map (es.push ⟨enc x, z, clock⟩) (clock + 1)), by simp [Instr.mapEntry, run_underlying ht, MapKept.run_getObj_map hb, E.keyed.check w false hl, h1, hz, MapKept.run_setObj_map _ hb, Result.andThen, ChangeMaps.setBlock], hgr _, fun val => ?_⟩
    have hw2 := ChangeMaps.heap_setBlock_same hb (.map (es.push ⟨enc x, z, clock⟩) (clock + 1))
    have hidx : (es.push ⟨enc x, z, clock⟩).findIdx? (fun e => ((e.born : Nat) : Int) == ((clock : Nat) : Int)) = some es.size := by
      rw [Go.WideElems.findIdx_arr, Array.toList_push, List.findIdx?_append]
      have h0 : es.toList.findIdx? (fun e => ((e.born : Nat) : Int) == ((clock : Nat) : Int)) = none := by
        rw [List.findIdx?_eq_none_iff]
        intro e he
        have := hlt e he
        simp
        omega
      rw [h0]
      simp
    have hmod : (es.push ⟨enc x, z, clock⟩).modify es.size (fun e => { e with val := val }) = es.push ⟨enc x, val, clock⟩ := by
      apply Array.ext'
      rw [Array.toList_modify, Array.toList_push, Array.toList_push, ← Array.length_toList, Go.WideElems.modify_last]
    have hsb : ∀ o o', ChangeMaps.setBlock (ChangeMaps.setBlock w b o) b o' = ChangeMaps.setBlock w b o' := by
      intro o o'
      simp [ChangeMaps.setBlock]
    refine ⟨ChangeMaps.setBlock w b (.map (es.push ⟨enc x, val, clock⟩) (clock + 1)), ?_, ⟨es.push ⟨enc x, val, clock⟩, clock + 1, ChangeMaps.heap_setBlock_same hb _, by simp; omega, ?_, ?_, ?_⟩, ⟨es.push ⟨enc x, val, clock⟩, clock + 1, ChangeMaps.heap_setBlock_same hb _, ?_⟩, hgr _⟩
    · simp [Instr.entryStore, MapKept.run_getObj_map hw2, asInt, asIntOf, goInt, hidx, hmod, MapKept.run_setObj_map _ hw2, Result.andThen]
      exact hsb _ _
    · simp only [Array.toList_push, List.map_append, List.map_cons, List.map_nil]
      refine List.nodup_append.2 ⟨hd, by simp, ?_⟩
      intro a ha c hc
      simp at hc
      subst hc
      obtain ⟨e1, he1, rfl⟩ := List.mem_map.1 ha
      exact h2 e1 he1
    · intro e1 he1
      simp only [Array.toList_push, List.mem_append, List.mem_singleton] at he1
      rcases he1 with he1 | rfl
      · obtain ⟨y, hy, hke, hfy⟩ := hv e1 he1
        refine ⟨y, hy, hke, ?_⟩
        unfold putF
        rw [if_neg (fun e => h2 e1 he1 (by rw [hke, e])), hfy]
      · exact ⟨x, hx, rfl, by simp [putF]⟩
    · intro y u hy
      unfold putF at hy
      simp only [Array.toList_push, List.mem_append, List.mem_singleton]
      by_cases hyx : y = x
      · exact ⟨hyx ▸ hx, _, .inr rfl, by rw [hyx]⟩
      · rw [if_neg hyx] at hy
        obtain ⟨hy0, e1, he1, hk1⟩ := hk y u hy
        exact ⟨hy0, e1, .inl he1, hk1⟩
    · intro e1 he1
      simp only [Array.toList_push, List.mem_append, List.mem_singleton] at he1
      rcases he1 with he1 | rfl
      · have := hlt e1 he1
        omega
      · dsimp only
        omega
  · exfalso
    have hm0 : e0 ∈ es.toList := List.mem_of_getElem? h2
    obtain ⟨y, hy, hke, hfy⟩ := hv e0 hm0
    have hxy : x = y := E.inj x y hx hy (h3 ▸ hke)
    subst hxy
    rw [hf] at hfy
    cases hfy
end
end Go.Proofs.YtfjflefgclfbfaaGreat
end
section
namespace Go.Proofs.YtfjflefgclfbfaaGreat
open Go.RowKit
set_option linter.unusedVariables false
set_option linter.unusedSimpArgs false
open Go.Maps (Keyed)
/-- All but some blocks is as it was. -/
structure Chg (F : Nat → Prop) (w w' : World) : Prop where
  os : w'.os = w.os
  tape : w'.tape = w.tape
  output : w'.output = w.output
  size : w.heap.size ≤ w'.heap.size
  block : ∀ k, k < w.heap.size → ¬ F k → w'.heap[k]? = w.heap[k]?
section
variable {F G : Nat → Prop} {w w' w'' : World}
theorem Chg.refl (F : Nat → Prop) (w : World) : Chg F w w := ⟨rfl, rfl, rfl, Nat.le_refl _, fun _ _ _ => rfl⟩
theorem Chg.trans (h : Chg F w w') (k : Chg G w' w'') (hG : ∀ b, G b → F b ∨ w.heap.size ≤ b) : Chg F w w'' :=
  ⟨k.os.trans h.os, k.tape.trans h.tape, k.output.trans h.output, Nat.le_trans h.size k.size, fun i hi hF => (k.block i (Nat.lt_of_lt_of_le hi h.size) (fun q => (hG i q).elim hF (fun e => by omega))).trans (h.block i hi hF)⟩
theorem Chg.of_grown {row : Option Nat} (h : w.grownBy w' row) (hr : ∀ g, row = some g → F g ∨ w.heap.size ≤ g) : Chg F w w' :=
  ⟨h.os, h.tape, h.output, h.size, fun i hi hF => h.block i hi (fun e => (hr i e.symm).elim hF (fun q => by omega))⟩
theorem Chg.of_below (h : Below w.heap.size w w') : Chg F w w' := ⟨h.os, h.tape, h.output, h.size, fun i hi _ => h.block i hi⟩
theorem Chg.below {B : Nat} (h : Chg F w w') (hF : ∀ b, F b → B ≤ b) (hB : B ≤ w.heap.size) : Below B w w' :=
  ⟨h.os, h.tape, h.output, h.size, fun i hi => h.block i (by omega) (fun q => by have := hF i q; omega)⟩
theorem Chg.mono (h : Chg F w w') (hF : ∀ b, F b → G b ∨ w.heap.size ≤ b) : Chg G w w' := ⟨h.os, h.tape, h.output, h.size, fun i hi hn => h.block i hi (fun q => (hF i q).elim hn (fun e => by omega))⟩
theorem Chg.drewN (h : Chg F w w') (n : Nat) : Chg F w (w'.drewN n) := ⟨h.os, h.tape, h.output, h.size, h.block⟩
theorem Chg.drew (h : Chg F w w') : Chg F w w'.drew := ⟨h.os, h.tape, h.output, h.size, h.block⟩
theorem Chg.blk {g : Nat} {t : TypeId} {cs : Array Value} (h : Chg F w w') (hb : Blk w g t cs) (hg : ¬ F g) : Blk w' g t cs := (h.block g hb.lt hg).trans hb
theorem own_block {base : Nat} {e : TypeId} {size n : Nat} {v : Value} {xs : List Value} (h : w.ownsRow base e size v n xs) (hb : ∀ g, v.ownBlock = some g → w'.heap[g]? = w.heap[g]?) : w'.ownsRow base e size v n xs := by
  refine ⟨h.1, ?_⟩
  rcases h.2 with h | ⟨g, cap, cur, h1, h2, h3, h4⟩
  · exact .inl h
  · exact .inr ⟨g, cap, cur, h1, h2, by rw [hb g (by rw [h1]; rfl)]; exact h3, h4⟩
theorem own_ge {base : Nat} {e : TypeId} {size n : Nat} {v : Value} {xs : List Value} (h : w.ownsRow base e size v n xs) : ∀ g, v.ownBlock = some g → base ≤ g ∧ g < w.heap.size := (RowL.of_own h).ge
theorem Chg.own {base : Nat} {e : TypeId} {size n : Nat} {v : Value} {xs : List Value} (h : Chg F w w') (ho : w.ownsRow base e size v n xs) (hg : ∀ g, v.ownBlock = some g → ¬ F g) : w'.ownsRow base e size v n xs :=
  own_block ho fun g q => h.block g (own_ge ho g q).2 (hg g q)
theorem Chg.mapIs {κ : Type} {P : Program} {k : TypeId} {enc : κ → Value} {V : κ → Prop} {b n : Nat} {f : κ → Option Value} (h : Chg F w w') (hm : MapIs P k enc V w b n f) (hg : ¬ F b) : MapIs P k enc V w' b n f := hm.block_ (h.block b hm.lt hg)
theorem Chg.reads {B size n : Nat} {A : Option Addr} {xs : List Value} (h : Chg F w w') (hr : Reads w B size A n xs) (hB : B ≤ w.heap.size) (hF : ∀ b, F b → B ≤ b) : Reads w' B size A n xs :=
  hr.keep fun p hp => World.cell?_of_block (h.block p.block (by omega) (fun q => by have := hF _ q; omega))
end
/-! ### terms as keys -/
def I8 (x : Int) : Prop := -128 ≤ x ∧ x < 128
def I64 (x : Int) : Prop := -9223372036854775808 ≤ x ∧ x < 9223372036854775808
def TD.wf (x : TD) : Prop := I8 x.kind ∧ I8 x.op ∧ I8 x.w ∧ U64 x.n ∧ I64 x.a ∧ I64 x.b ∧ I64 x.c
theorem wf_i8 {x : Int} (h : I8 x) : (Lit.int .i8 x).wf = true := by unfold I8 at h; exact WalkArith.wf_i8 (by omega)
theorem wf_i64 {x : Int} (h : I64 x) : (Lit.int .i64 x).wf = true := by unfold I64 at h; exact WalkArith.wf_i64 (by omega)
theorem wf_u64 {x : Int} (h : U64 x) : (Lit.int .u64 x).wf = true := by unfold U64 at h; exact WalkArith.wf_u64 (by omega)
theorem TD.one (x : TD) : ∀ u ∈ x.cells, u.oneCell' = true := by
  intro v hv
  unfold TD.cells at hv
  simp only [List.mem_cons, List.not_mem_nil, or_false] at hv
  rcases hv with rfl | rfl | rfl | rfl | rfl | rfl | rfl <;> rfl
theorem TD.cells_inj {x y : TD} (h : x.cells = y.cells) : x = y := by
  unfold TD.cells at h
  simp only [List.cons.injEq, Value.int.injEq, true_and, and_true] at h
  obtain ⟨h0, h1, h2, h3, h4, h5, h6⟩ := h
  cases x
  cases y
  simp_all
def termV (x : TD) : Value := .agg x.cells.toArray
theorem termV_inj {x y : TD} (h : termV x = termV y) : x = y := by
  unfold termV at h
  injection h with h
  exact TD.cells_inj (by simpa using h)
theorem laidOut_ : laidOutB Tryz.prog = true := by kernel_rfl
theorem sizeT_ : Nat.ble 1 Tryz.prog.types.size = true := by kernel_rfl
theorem cells8 : Tryz.prog.cellsOf 24 = 1 := by kernel_rfl
theorem cells64 : Tryz.prog.cellsOf 3 = 1 := by kernel_rfl
theorem cellsU : Tryz.prog.cellsOf 31 = 1 := by kernel_rfl
theorem termK_reads (x : TD) (h : x.wf) : ∃ l, keyOf Tryz.prog 67 (termV x) = some l := by
  obtain ⟨h0, h1, h2, h3, h4, h5, h6⟩ := h
  refine keyOf_struct (cs := x.cells) Tryz.underlying67 (by kernel_rfl) (by show _ = 7; kernel_rfl) (by kernel_rfl) sizeT_ ?_
  intro f hf
  simp at hf
  rcases hf with rfl | rfl | rfl | rfl | rfl | rfl | rfl
  · exact ⟨.i8, x.kind, Tryz.underlying24, cells8, rfl, wf_i8 h0⟩
  · exact ⟨.i8, x.op, Tryz.underlying24, cells8, rfl, wf_i8 h1⟩
  · exact ⟨.i8, x.w, Tryz.underlying24, cells8, rfl, wf_i8 h2⟩
  · exact ⟨.u64, x.n, Tryz.underlying31, cellsU, rfl, wf_u64 h3⟩
  · exact ⟨.i64, x.a, Tryz.underlying3, cells64, rfl, wf_i64 h4⟩
  · exact ⟨.i64, x.b, Tryz.underlying3, cells64, rfl, wf_i64 h5⟩
  · exact ⟨.i64, x.c, Tryz.underlying3, cells64, rfl, wf_i64 h6⟩
theorem termK : KeyEnc Tryz.prog 67 termV TD.wf where
  keyed := Keyed.of_law (deep_law_gate laidOut_ (of_decide_eq_true (by kernel_rfl)) (of_decide_eq_true (by kernel_rfl)) (by kernel_rfl) (by kernel_rfl))
  reads := termK_reads
  inj := fun p q _ _ h => termV_inj h
theorem wordK : KeyEnc Tryz.prog 31 (Value.int .u64) U64 where
  keyed := Go.Maps.int_keyed Tryz.underlying31
  reads := fun x h => ⟨_, Go.Maps.keyOf_int_mk Tryz.underlying31 (wf_u64 h)⟩
  inj := fun p q _ _ h => by injection h
theorem numK : KeyEnc Tryz.prog 3 (Value.int .i64) I64 where
  keyed := Go.Maps.int_keyed Tryz.underlying3
  reads := fun x h => ⟨_, Go.Maps.keyOf_int_mk Tryz.underlying3 (wf_i64 h)⟩
  inj := fun p q _ _ h => by injection h
/-! ### the two maps' contents -/
def ofF (T : List TD) (x : TD) : Option Value := (atT T x).map fun i => .int .i64 (i : Nat)
def wdF (T : List TD) (n : Int) : Option Value := (wideF T n).map (Value.int .i8)
theorem ofF_put {T : List TD} {t : TD} (h : atT T t = none) (x : TD) : ofF (T ++ [t]) x = putF (ofF T) t (.int .i64 (T.length : Nat)) x := by
  unfold ofF putF atT at *
  rw [List.findIdx?_append]
  by_cases e : x = t
  · subst e
    rw [if_pos rfl, h]
    simp
  · rw [if_neg e]
    cases hx : T.findIdx? (fun y => decide (y = x)) with
    | some i => simp [hx]
    | none => simp [hx, List.findIdx?_cons, Ne.symm e]
theorem wdF_same {T : List TD} {t : TD} (h : t.kind ≠ 1) (x : Int) : wdF (T ++ [t]) x = wdF T x := by
  unfold wdF wideF
  rw [List.find?_append]
  have : varB x t = false := by unfold varB; simp [h]
  cases hx : T.find? (varB x) with
  | some i => rfl
  | none => simp [this, hx]
theorem wdF_put {T : List TD} {t : TD} (h : t.kind = 1) (hc : clashB T t = false) (x : Int) : wdF (T ++ [t]) x = putF (wdF T) t.n (.int .i8 t.w) x := by
  unfold wdF putF
  by_cases e : x = t.n
  · subst e
    rw [if_pos rfl]
    cases hx : wideF T t.n with
    | some w =>
      rw [find_app (by rw [hx]; simp), hx]
      unfold clashB at hc
      rw [hx, h] at hc
      simp at hc
      rw [hc]
      rfl
    | none =>
      rw [wideF_new hx]
      have : varB t.n t = true := by unfold varB; simp [h]
      rw [this]
      rfl
  · rw [if_neg e]
    unfold wideF
    rw [List.find?_append]
    have : varB x t = false := by unfold varB; simp [Ne.symm e]
    cases hx : T.find? (varB x) with
    | some i => simp [hx]
    | none => simp [this, hx]
/-- A pool lies at block g; F: the blocks that are its own. -/
structure PoolAt (w : World) (base : Nat) (F : Nat → Prop) (g : Nat) (p : PS) : Prop where
  ex : ∃ ls ds o v, Blk w g 51 #[ls, ds, .map (some o), .map (some v)] ∧ w.ownsRow base 67 7 ls p.T.length (p.T.flatMap TD.cells) ∧ w.ownsRow base 3 1 ds p.T.length (p.D.map (Value.int .i64)) ∧
    MapIs Tryz.prog 67 termV TD.wf w o p.T.length (ofF p.T) ∧ MapIs Tryz.prog 31 (Value.int .u64) U64 w v p.T.length (wdF p.T) ∧ Stamped w o ∧ o ≠ v ∧ F g ∧ F o ∧ F v ∧ (∀ b, ls.ownBlock = some b → F b) ∧ (∀ b, ds.ownBlock = some b → F b)
  wf : WfP p
  rng : ∀ t ∈ p.T, t.wf
  fb : ∀ b, F b → base ≤ b ∧ b < w.heap.size
section
variable {w w' : World} {base g : Nat} {F G : Nat → Prop} {p : PS}
theorem PoolAt.chg (h : PoolAt w base F g p) (hc : Chg G w w') (hd : ∀ b, F b → ¬ G b) : PoolAt w' base F g p := by
  obtain ⟨ls, ds, o, v, h1, h2, h3, h4, h5, h6, hov, f1, f2, f3, f4, f5⟩ := h.ex
  exact ⟨⟨ls, ds, o, v, hc.blk h1 (hd _ f1), hc.own h2 (fun b q => hd _ (f4 b q)), hc.own h3 (fun b q => hd _ (f5 b q)), hc.mapIs h4 (hd _ f2), hc.mapIs h5 (hd _ f3), h6.block_ (hc.block o h4.lt (hd _ f2)), hov, f1, f2, f3, f4, f5⟩, h.wf, h.rng, fun b q => ⟨(h.fb b q).1, Nat.lt_of_lt_of_le (h.fb b q).2 hc.size⟩⟩
theorem PoolAt.below (h : PoolAt w base F g p) (hb : Below w.heap.size w w') : PoolAt w' base F g p := h.chg (G := fun _ => False) (.of_below hb) (fun _ _ q => q)
/-- What a pool reads as. -/
theorem PoolAt.view (h : PoolAt w base F g p) : ∃ A c D d, w.cell? ⟨g, 0, none⟩ = some (.slice A p.T.length c) ∧ p.T.length ≤ c ∧ Reads w w.heap.size 7 A p.T.length (p.T.flatMap TD.cells) ∧
    w.cell? ⟨g, 1, none⟩ = some (.slice D p.T.length d) ∧ p.T.length ≤ d ∧ Reads w w.heap.size 1 D p.T.length (p.D.map (Value.int .i64)) := by
  obtain ⟨ls, ds, o, v, h1, h2, h3, _⟩ := h.ex
  obtain ⟨A, c, rfl, h4, h5⟩ := (RowL.of_own h2).slice
  obtain ⟨D, d, rfl, h6, h7⟩ := (RowL.of_own h3).slice
  exact ⟨A, c, D, d, h1.cell 0, h4, h5, h1.cell 1, h6, h7⟩
theorem flat_at {α β : Type} (f : α → List β) (m : Nat) : ∀ (l : List α), (∀ x ∈ l, (f x).length = m) → ∀ (k j : Nat) (x : α) (u : β), l[k]? = some x → (f x)[j]? = some u → (l.flatMap f)[k * m + j]? = some u
  | [], _, k, j, x, u, hk, _ => by simp at hk
  | y :: r, hl, k, j, x, u, hk, hu => by
    rw [List.flatMap_cons]
    have hy := hl y (by simp)
    cases k with
    | zero =>
      simp at hk
      subst hk
      have hj : j < (f y).length := (List.getElem?_eq_some_iff.1 hu).1
      rw [Nat.zero_mul, Nat.zero_add, List.getElem?_append_left hj, hu]
    | succ k =>
      have := flat_at f m r (fun z hz => hl z (by simp [hz])) k j x u (by simpa using hk) hu
      rw [List.getElem?_append_right (by rw [hy, Nat.succ_mul]; omega), hy, show (k + 1) * m + j - m = k * m + j by rw [Nat.succ_mul]; omega]
      exact this
theorem PoolAt.few (h : PoolAt w base F g p) : p.T.length ≤ 4000 := h.wf.few
/-- A term of it. -/
theorem PoolAt.at_ (h : PoolAt w base F g p) {k : Nat} (hk : k < p.T.length) : ∃ ad c dd d t x, w.cell? ⟨g, 0, none⟩ = some (.slice (some ad) p.T.length c) ∧ p.T.length ≤ c ∧ w.cell? ⟨g, 1, none⟩ = some (.slice (some dd) p.T.length d) ∧ p.T.length ≤ d ∧ ad.block < w.heap.size ∧ dd.block < w.heap.size ∧
    p.T[k]? = some t ∧ p.D[k]? = some x ∧ t.wf ∧ 1 ≤ x ∧ x ≤ 256 ∧ (∀ j u, t.cells[j]? = some u → w.cell? ((ad.add (k * 7)).add j) = some u) ∧ w.cell? (dd.add k) = some (.int .i64 x) := by
  obtain ⟨A, c, D, d, h1, h2, h3, h4, h5, h6⟩ := h.view
  obtain ⟨ad, rfl, hb, hc⟩ := h3.2 (by omega)
  obtain ⟨dd, u, rfl, hb2, hu, hc2⟩ := h6.at_ hk
  have hx : p.D[k]? = some (p.D[k]'(by rw [h.wf.len]; exact hk)) := List.getElem?_eq_getElem _
  have ht : p.T[k]? = some p.T[k] := List.getElem?_eq_getElem hk
  rw [List.getElem?_map, hx] at hu
  injection hu with hu
  subst hu
  have hl := h.wf.low _ (List.mem_of_getElem? hx)
  refine ⟨ad, c, dd, d, _, _, h1, h2, h4, h5, hb, hb2, ht, hx, h.rng _ (List.mem_of_getElem? ht), hl.1, hl.2, fun j u hu => ?_, hc2⟩
  rw [add_of_add]
  exact hc _ u (flat_at TD.cells 7 p.T (fun _ _ => rfl) k j _ u ht hu)
theorem PoolAt.drew (h : PoolAt w base F g p) : PoolAt w.drew base F g p := h.below ((Below.refl _ _).drew)
end
end Go.Proofs.YtfjflefgclfbfaaGreat
end
section
namespace Go.Proofs.YtfjflefgclfbfaaGreat
open Go.RowKit
set_option linter.unusedVariables false
set_option linter.unusedSimpArgs false
theorem width_any (x : Int) (w : World) : Calls Tryz.prog 30 #[.int .i8 x] w fun e w' => e = .returned (.bool (wdB x)) ∧ w = w' := by
  cases h8 : (x == 8)
  · cases h16 : (x == 16)
    · cases h32 : (x == 32)
      · cases h64 : (x == 64)
        all_goals
          go_enter Tryz.func30, Tryz.ntmps30
          go_wp2
          go_ret
          exact ⟨by unfold wdB; simp [h8, h16, h32, h64], rfl⟩
      · go_enter Tryz.func30, Tryz.ntmps30
        go_wp2
        go_ret
        exact ⟨by unfold wdB; simp [h8, h16, h32], rfl⟩
    · go_enter Tryz.func30, Tryz.ntmps30
      go_wp2
      go_ret
      exact ⟨by unfold wdB; simp [h8, h16], rfl⟩
  · go_enter Tryz.func30, Tryz.ntmps30
    go_wp2
    go_ret
    exact ⟨by unfold wdB; simp [h8], rfl⟩
section
variable {w : World} {base g : Nat} {F : Nat → Prop} {p : PS}
theorem has_any (k : Int) (h : PoolAt w base F g p) : Calls Tryz.prog 90 #[.pointer (some ⟨g, 0, none⟩), .int .i64 k] w fun e w' => e = .returned (.bool (hasB p.T k)) ∧ w = w' := by
  obtain ⟨A, c, D, d, h1, h2, _, h4, h5, _⟩ := h.view
  have hf := h.few
  obtain ⟨n, hn⟩ : ∃ n, p.T.length = n := ⟨_, rfl⟩
  have HB := hide (show hasB p.T k = (decide (0 ≤ k) && decide (k < (n : Int))) by unfold hasB; rw [hn])
  rw [hn] at h1 h2 hf
  clear hn h h4 h5
  cases hk : decide (0 ≤ k)
  · have hk2 : decide (k < 0) = true := by simp at hk ⊢; omega
    go_enter Tryz.func90, Tryz.ntmps90
    go_wp2
    go_ret
    exact ⟨by rw [HB.out, hk]; rfl, rfl⟩
  · go_enter Tryz.func90, Tryz.ntmps90
    go_wp2
    go_ret
    exact ⟨by rw [HB.out, hk]; rfl, rfl⟩
/-- A term that is not there. -/
def zeroT : TD := ⟨0, 0, 0, 0, 0, 0, 0⟩
theorem get_none {k : Int} (h : PoolAt w base F g p) (hk : hasB p.T k = false) : Calls Tryz.prog 86 #[.pointer (some ⟨g, 0, none⟩), .int .i64 k] w fun e w' => e = .returned (.tuple #[termV zeroT, .int .i64 2]) ∧ Below w.heap.size w w' := by
  have H := hide h
  have HH := hide hk
  clear h hk
  go_enter Tryz.func86, Tryz.ntmps86
  go_wp2_with fail
  refine (has_any k (H.out.below ((Below.refl _ _).alloc (Nat.le_refl _) _))).mono ?_
  rintro e w' ⟨rfl, rfl⟩
  rw [HH.out]
  go_wp2
  exact bodyPost_ret (v := .tuple #[termV zeroT, .int .i64 2]) (by simp [results, Tryz.results86, go_sem, termV, zeroT, TD.cells]) rfl ⟨rfl, (Below.refl _ _).alloc (Nat.le_refl _) _⟩
end
theorem sizT : (Tryz.prog.info? 67).map (·.size) = some 7 := by kernel_rfl
abbrev TD.lit (t : TD) : List Value := [.int .i8 t.kind, .int .i8 t.op, .int .i8 t.w, .int .u64 t.n, .int .i64 t.a, .int .i64 t.b, .int .i64 t.c]
section
variable {w : World} {base g : Nat} {F : Nat → Prop} {p : PS}
theorem get_any {k : Nat} {t : TD} (h : PoolAt w base F g p) (ht : p.T[k]? = some t) : Calls Tryz.prog 86 #[.pointer (some ⟨g, 0, none⟩), .int .i64 k] w fun e w' => e = .returned (.tuple #[termV t, .int .i64 0]) ∧ Below w.heap.size w w' := by
  have hk : k < p.T.length := (List.getElem?_eq_some_iff.1 ht).1
  have H1 := h.below ((Below.refl _ _).alloc (Nat.le_refl _) (.cells #[.int .i8 0, .int .i8 0, .int .i8 0, .int .u64 0, .int .i64 0, .int .i64 0, .int .i64 0] 67))
  obtain ⟨ad, c, dd, d, t', x', h1, h2, _, _, _, _, ht', _, _, _, _, hc, _⟩ := H1.at_ hk
  obtain rfl : t = t' := by rw [ht] at ht'; exact Option.some.inj ht'
  have H := hide H1
  have hh : hasB p.T k = true := by unfold hasB; simp; exact hk
  have HH := hide hh
  have hf := h.few
  obtain ⟨n, hn⟩ : ∃ n, p.T.length = n := ⟨_, rfl⟩
  rw [hn] at h1 h2 hk hf
  have HC := hide hc
  clear hn h ht' ht hh H1 hc
  have hkd : k < c := by omega
  go_enter Tryz.func86, Tryz.ntmps86
  go_wp2_with fail
  refine (has_any k H.out).mono ?_
  rintro e w' ⟨rfl, rfl⟩
  rw [HH.out]
  go_wp2_with (first
    | (refine wpList_load_at rfl 67 (.tmp 21) rfl (ad.add (k * 7)) (by rfl) t.lit _ HC.out Tryz.underlying67 rfl sizT ?_)
    | fail)
  exact bodyPost_ret (v := .tuple #[termV t, .int .i64 0]) (by simp [results, Tryz.results86, go_sem, termV, TD.cells]) rfl ⟨rfl, ((Below.refl _ _).alloc (Nat.le_refl _) _)⟩
end
theorem build_pool (a b : Option Nat) (w : World) : (Instr.build 51 #[(2, .map a), (3, .map b)]).run Tryz.prog w = .ok (.agg #[.slice none 0 0, .slice none 0 0, .map a, .map b]) w := run_build w 51 _ _ (by kernel_rfl)
/-- A pool just made. -/
theorem pool_new (w : World) : PoolAt (((w.alloc (.map #[] 0)).alloc (.map #[] 0)).alloc (.cells #[.slice none 0 0, .slice none 0 0, .map (some w.heap.size), .map (some (w.heap.size + 1))] 51)) w.heap.size (fun b => w.heap.size ≤ b ∧ b < w.heap.size + 3) (w.heap.size + 2) ⟨[], []⟩ := by
  have e1 : (w.alloc (.map #[] 0)).heap.size = w.heap.size + 1 := by simp
  have e2 : ((w.alloc (.map #[] 0)).alloc (.map #[] 0)).heap.size = w.heap.size + 2 := by simp
  have m1 : MapIs Tryz.prog 67 termV TD.wf (w.alloc (.map #[] 0)) w.heap.size 0 (fun _ => none) := MapIs.new w
  have m2 : MapIs Tryz.prog 31 (Value.int .u64) U64 ((w.alloc (.map #[] 0)).alloc (.map #[] 0)) (w.heap.size + 1) 0 (fun _ => none) := by
    have := MapIs.new (P := Tryz.prog) (k := 31) (enc := Value.int .u64) (V := U64) (w.alloc (.map #[] 0))
    rw [e1] at this
    exact this
  have b3 := Blk.new ((w.alloc (.map #[] 0)).alloc (.map #[] 0)) 51 #[.slice none 0 0, .slice none 0 0, .map (some w.heap.size), .map (some (w.heap.size + 1))]
  rw [e2] at b3
  have s1 := Stamped.new w
  refine ⟨⟨.slice none 0 0, .slice none 0 0, w.heap.size, w.heap.size + 1, b3, ⟨rfl, .inl ⟨rfl, rfl⟩⟩, ⟨rfl, .inl ⟨rfl, rfl⟩⟩, (m1.alloc _).alloc _, m2.alloc _, ?_, by omega, ?_, ?_, ?_, ?_, ?_⟩, WfP.nil, by simp, fun b hb => by simp; omega⟩
  · exact s1.block_ (by rw [Below.heap_alloc _ _ _ (by simp; omega), Below.heap_alloc _ _ _ (by simp)])
  · omega
  · omega
  · omega
  · intro b hb; simp [Value.ownBlock] at hb
  · intro b hb; simp [Value.ownBlock] at hb
theorem new_any (w : World) : Calls Tryz.prog 5 #[] w fun e w' => ∃ g F, e = .returned (.pointer (some ⟨g, 0, none⟩)) ∧ PoolAt w' w.heap.size F g ⟨[], []⟩ ∧ Below w.heap.size w w' := by
  have hbd := fun (a b : Option Nat) (w : World) => build_pool a b w
  have hm1 : ∀ w : World, (Instr.makeMap 47 none).run Tryz.prog w = .ok (.map (some w.heap.size)) (w.alloc (.map #[] 0)) := fun _ => rfl
  have hm2 : ∀ w : World, (Instr.makeMap 48 none).run Tryz.prog w = .ok (.map (some w.heap.size)) (w.alloc (.map #[] 0)) := fun _ => rfl
  go_enter Tryz.func5, Tryz.ntmps5
  go_wp2
  go_ret
  refine ⟨w.heap.size + 2, _, ?_, pool_new w, (((Below.refl _ _).alloc (Nat.le_refl _) _).alloc (by simp) _).alloc (by simp; omega) _⟩
  rfl
end Go.Proofs.YtfjflefgclfbfaaGreat
end
section
namespace Go.Proofs.YtfjflefgclfbfaaGreat
open Go.RowKit
set_option linter.unusedVariables false
set_option linter.unusedSimpArgs false
set_option maxRecDepth 100000
theorem flatTm : flatK Tryz.prog 4 67 = some [some .i8, some .i8, some .i8, some .u64, some .i64, some .i64, some .i64] := by kernel_rfl
theorem okTm : eqOk Tryz.prog 4 67 = true := by kernel_rfl
theorem aggTm : aggT Tryz.prog 67 = true := by kernel_rfl
theorem tm_all {x : TD} (h : x.wf) : AllK [some .i8, some .i8, some .i8, some .u64, some .i64, some .i64, some .i64] x.cells := by
  obtain ⟨h0, h1, h2, h3, h4, h5, h6⟩ := h
  refine ⟨rfl, fun i k v hk hv => ?_⟩
  match i with
  | 0 => simp [TD.cells] at hk hv; subst hk hv; exact ⟨_, rfl, wf_i8 h0⟩
  | 1 => simp [TD.cells] at hk hv; subst hk hv; exact ⟨_, rfl, wf_i8 h1⟩
  | 2 => simp [TD.cells] at hk hv; subst hk hv; exact ⟨_, rfl, wf_i8 h2⟩
  | 3 => simp [TD.cells] at hk hv; subst hk hv; exact ⟨_, rfl, wf_u64 h3⟩
  | 4 => simp [TD.cells] at hk hv; subst hk hv; exact ⟨_, rfl, wf_i64 h4⟩
  | 5 => simp [TD.cells] at hk hv; subst hk hv; exact ⟨_, rfl, wf_i64 h5⟩
  | 6 => simp [TD.cells] at hk hv; subst hk hv; exact ⟨_, rfl, wf_i64 h6⟩
  | i + 7 => simp at hk
theorem eqL_tm {x y : TD} (hx : x.wf) (hy : y.wf) : eqL x.cells y.cells = decide (x = y) := by
  have := eqL_iff _ _ _ (tm_all hx) (tm_all hy)
  rw [Bool.eq_iff_iff, this]
  simp only [decide_eq_true_eq]
  exact ⟨TD.cells_inj, fun h => by rw [h]⟩
theorem eql_tm {x y : TD} (hx : x.wf) (hy : y.wf) (w : World) : (binOp .eql 67 (.agg x.cells.toArray) (.agg y.cells.toArray)).run Tryz.prog w = .ok (.bool (decide (x = y))) w := by
  rw [run_eql_flat (by omega) flatTm okTm aggTm (tm_all hx) (tm_all hy) w, eqL_tm hx hy]
theorem eql_tmG {x y : TD} (hx : x.wf) (hy : y.wf) (p q : Operand) (w : World) : (do eqGuard .eql 67 p q (.agg x.cells.toArray) (.agg y.cells.toArray); binOp .eql 67 (.agg x.cells.toArray) (.agg y.cells.toArray) : Sem Value).run Tryz.prog w = .ok (.bool (decide (x = y))) w := by
  have := eql_tm hx hy w
  simp only [Sem.run_bind]
  rw [show (eqGuard .eql 67 p q (.agg x.cells.toArray) (.agg y.cells.toArray)).run Tryz.prog w = .ok () w from run_eqGuard_agg (w := w) .eql 67 p q _ _ Tryz.eqGuardType67]
  exact this
end Go.Proofs.YtfjflefgclfbfaaGreat
end
