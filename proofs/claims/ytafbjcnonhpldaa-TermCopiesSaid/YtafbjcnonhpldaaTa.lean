/-
  Plain words on terms in a pool: which may be put, what a pool is behind it. Conditions: those written in each statement.
-/
import Derived.Test.YtafbjcnonhpldaaKit
namespace Go.Proofs.Ytafbjcnonhpldaa
set_option linter.unusedVariables false
set_option linter.unusedSimpArgs false
structure TD where
  kind : Int
  op : Int
  w : Int
  n : Int
  a : Int
  b : Int
  c : Int
deriving DecidableEq
def TD.cells (x : TD) : List Value := [.int .i8 x.kind, .int .i8 x.op, .int .i8 x.w, .int .u64 x.n, .int .i64 x.a, .int .i64 x.b, .int .i64 x.c]
/-- A term's parts. -/
def prtL (t : TD) : List Int := if t.kind = 2 ∨ t.kind = 4 then [t.a, t.b] else if t.kind = 3 then [t.a] else if t.kind = 5 then [t.a, t.b, t.c] else []
def likeT (t : TD) : TD :=
  if t.kind = 0 then ⟨0, 0, 0, t.n, 0, 0, 0⟩
  else if t.kind = 1 then ⟨1, 0, t.w, t.n, 0, 0, 0⟩
  else if t.kind = 2 then ⟨2, t.op, t.w, 0, t.a, t.b, 0⟩
  else if t.kind = 4 then ⟨4, t.op, t.w, 0, t.a, t.b, 0⟩
  else if t.kind = 3 then ⟨3, 0, t.w, 0, t.a, 0, 0⟩
  else if t.kind = 5 then ⟨5, 0, 0, 0, t.a, t.b, t.c⟩
  else ⟨t.kind, 0, 0, 0, 0, 0, 0⟩
def wdB (w : Int) : Bool := w == 8 || (w == 16 || (w == 32 || w == 64))
/-- What else a kind asks. -/
def askT (t : TD) : Bool :=
  if t.kind = 0 then true
  else if t.kind = 1 then wdB t.w
  else if t.kind = 2 then (t.w == 32 || t.w == 64) && (decide (0 ≤ t.op) && decide (t.op ≤ 12))
  else if t.kind = 4 then (t.w == 32 || t.w == 64) && (decide (0 ≤ t.op) && decide (t.op ≤ 10))
  else if t.kind = 3 then t.w != 64 && wdB t.w
  else decide (t.kind = 5)
def okF (t : TD) : Bool := askT t && decide (t = likeT t)
def hasB (T : List TD) (n : Int) : Bool := decide (0 ≤ n) && decide (n < T.length)
def varB (n : Int) (x : TD) : Bool := x.kind == 1 && x.n == n
def wideF (T : List TD) (n : Int) : Option Int := (T.find? (varB n)).map (·.w)
def clashB (T : List TD) (t : TD) : Bool := t.kind == 1 && (match wideF T t.n with | some w => w != t.w | none => false)
def okP (T : List TD) (t : TD) : Bool := okF t && ((prtL t).all (hasB T) && !clashB T t)
def dmax (D : List Int) (l : List Int) : Int := l.foldl (fun d n => max d (D.getD n.toNat 0 + 1)) 1
structure PS where
  T : List TD
  D : List Int
def atT (T : List TD) (t : TD) : Option Nat := T.findIdx? (fun x => decide (x = t))
def putP (p : PS) (t : TD) : PS := if okP p.T t = true ∧ atT p.T t = none ∧ p.T.length < 4000 ∧ dmax p.D (prtL t) ≤ 256 then ⟨p.T ++ [t], p.D ++ [dmax p.D (prtL t)]⟩ else p
def putN (p : PS) (t : TD) : Int × Int :=
  if okP p.T t = false then (0, 2) else match atT p.T t with
    | some i => ((i : Int), 0)
    | none => if 4000 ≤ p.T.length ∨ 256 < dmax p.D (prtL t) then (0, 260) else ((p.T.length : Int), 0)
theorem atT_some {T : List TD} {t : TD} {i : Nat} (h : atT T t = some i) : T[i]? = some t := by
  unfold atT at h
  obtain ⟨hi, hp, _⟩ := List.findIdx?_eq_some_iff_getElem.1 h
  simp at hp
  rw [List.getElem?_eq_getElem hi, hp]
theorem atT_none {T : List TD} {t : TD} (h : atT T t = none) : t ∉ T := by
  intro hm
  unfold atT at h
  rw [List.findIdx?_eq_none_iff] at h
  have := h t hm
  simp at this
theorem atT_mem {T : List TD} {t : TD} (h : t ∈ T) : ∃ i, atT T t = some i := by
  cases e : atT T t with
  | some i => exact ⟨i, rfl⟩
  | none => exact absurd h (atT_none e)
/-- A pool that came of puts. -/
structure WfP (p : PS) : Prop where
  len : p.D.length = p.T.length
  few : p.T.length ≤ 4000
  ok : ∀ (i : Nat) (t : TD), p.T[i]? = some t → okF t = true
  part : ∀ (i : Nat) (t : TD), p.T[i]? = some t → ∀ k ∈ prtL t, 0 ≤ k ∧ k < (i : Int)
  deep : ∀ (i : Nat) (t : TD), p.T[i]? = some t → p.D[i]? = some (dmax p.D (prtL t))
  low : ∀ d ∈ p.D, 1 ≤ d ∧ d ≤ 256
  once : ∀ (i j : Nat) (t : TD), p.T[i]? = some t → p.T[j]? = some t → i = j
  wide : ∀ (i j : Nat) (t u : TD), p.T[i]? = some t → p.T[j]? = some u → t.kind = 1 → u.kind = 1 → t.n = u.n → t.w = u.w
theorem WfP.nil : WfP ⟨[], []⟩ := ⟨rfl, by simp, by simp, by simp, by simp, by simp, by simp, by simp⟩
theorem dmax_ge (D : List Int) : ∀ (l : List Int) (d : Int), d ≤ l.foldl (fun d n => max d (D.getD n.toNat 0 + 1)) d
  | [], d => Int.le_refl _
  | x :: r, d => Int.le_trans (Int.le_max_left _ _) (dmax_ge D r _)
theorem one_le_dmax (D : List Int) (l : List Int) : 1 ≤ dmax D l := dmax_ge D l 1
theorem dmax_app {D : List Int} (d' : Int) : ∀ (l : List Int), (∀ k ∈ l, 0 ≤ k ∧ k < (D.length : Int)) → ∀ a, l.foldl (fun d n => max d ((D ++ [d']).getD n.toNat 0 + 1)) a = l.foldl (fun d n => max d (D.getD n.toNat 0 + 1)) a := by
  intro l
  induction l with
  | nil => intro _ a; rfl
  | cons x r ih =>
    intro h a
    have hx := h x (by simp)
    rw [List.foldl_cons, List.foldl_cons, ih (fun k hk => h k (by simp [hk]))]
    congr 2
    rw [List.getD_eq_getElem?_getD, List.getD_eq_getElem?_getD, List.getElem?_append_left (by omega)]
theorem find_app {T : List TD} {n : Int} {t : TD} (h : wideF T n ≠ none) : wideF (T ++ [t]) n = wideF T n := by
  unfold wideF at h ⊢
  rw [List.find?_append]
  cases e : T.find? (varB n) with
  | none => rw [e] at h; exact absurd rfl h
  | some x => rfl
theorem wideF_new {T : List TD} {n : Int} {t : TD} (h : wideF T n = none) : wideF (T ++ [t]) n = if varB n t then some t.w else none := by
  unfold wideF at h ⊢
  rw [List.find?_append]
  cases e : T.find? (varB n) with
  | none =>
    rw [List.find?_singleton]
    cases varB n t <;> rfl
  | some x => rw [e] at h; cases h
theorem wideF_some {T : List TD} {n w : Int} (h : wideF T n = some w) : ∃ (i : Nat) (t : TD), T[i]? = some t ∧ t.kind = 1 ∧ t.n = n ∧ t.w = w := by
  unfold wideF at h
  rw [Option.map_eq_some_iff] at h
  obtain ⟨t, ht, rfl⟩ := h
  have h1 := List.mem_of_find?_eq_some ht
  have h2 := List.find?_some ht
  obtain ⟨i, hi⟩ := List.getElem?_of_mem h1
  unfold varB at h2
  simp at h2
  exact ⟨i, t, hi, h2.1, h2.2, rfl⟩
theorem wideF_none {T : List TD} {n : Int} (h : wideF T n = none) : ∀ t ∈ T, t.kind = 1 → t.n ≠ n := by
  intro t ht hk hn
  unfold wideF at h
  rw [Option.map_eq_none_iff, List.find?_eq_none] at h
  have := h t ht
  unfold varB at this
  simp [hk, hn] at this
theorem WfP.wideF {p : PS} (h : WfP p) {i : Nat} {t : TD} (ht : p.T[i]? = some t) (hk : t.kind = 1) : wideF p.T t.n = some t.w := by
  cases e : Go.Proofs.Ytafbjcnonhpldaa.wideF p.T t.n with
  | none => exact absurd rfl (wideF_none e t (List.mem_of_getElem? ht) hk)
  | some w =>
    obtain ⟨j, u, hu, hku, hn, hw⟩ := wideF_some e
    rw [← hw, h.wide i j t u ht hu hk hku hn.symm]
theorem okP_parts {T : List TD} {t : TD} (h : okP T t = true) : okF t = true ∧ (∀ k ∈ prtL t, 0 ≤ k ∧ k < (T.length : Int)) ∧ clashB T t = false := by
  unfold okP at h
  simp only [Bool.and_eq_true, List.all_eq_true, Bool.not_eq_true'] at h
  refine ⟨h.1, fun k hk => ?_, h.2.2⟩
  have := h.2.1 k hk
  unfold hasB at this
  simp at this
  exact this
theorem putP_cases (p : PS) (t : TD) : (putP p t = p ∧ ((okP p.T t = false ∧ putN p t = (0, 2)) ∨ (okP p.T t = true ∧ ∃ i : Nat, p.T[i]? = some t ∧ atT p.T t = some i ∧ putN p t = ((i : Int), 0)) ∨ (okP p.T t = true ∧ atT p.T t = none ∧ (4000 ≤ p.T.length ∨ 256 < dmax p.D (prtL t)) ∧ putN p t = (0, 260)))) ∨
    (okP p.T t = true ∧ atT p.T t = none ∧ p.T.length < 4000 ∧ dmax p.D (prtL t) ≤ 256 ∧ putP p t = ⟨p.T ++ [t], p.D ++ [dmax p.D (prtL t)]⟩ ∧ putN p t = ((p.T.length : Int), 0)) := by
  unfold putP putN
  cases ho : okP p.T t
  · exact .inl ⟨by simp, .inl ⟨rfl, by simp⟩⟩
  · cases ha : atT p.T t with
    | some i => exact .inl ⟨by simp, .inr (.inl ⟨rfl, i, atT_some ha, rfl, by simp⟩)⟩
    | none =>
      by_cases hl : 4000 ≤ p.T.length ∨ 256 < dmax p.D (prtL t)
      · refine .inl ⟨?_, .inr (.inr ⟨rfl, rfl, hl, ?_⟩)⟩
        · rw [if_neg (by rintro ⟨_, _, h1, h2⟩; omega)]
        · simp [hl]
      · refine .inr ⟨rfl, rfl, by omega, by omega, ?_, ?_⟩
        · rw [if_pos ⟨rfl, rfl, by omega, by omega⟩]
        · simp [hl]
theorem WfP.put {p : PS} (h : WfP p) (t : TD) : WfP (putP p t) := by
  rcases putP_cases p t with ⟨e, _⟩ | ⟨ho, ha, hl, hd, e, _⟩
  · rw [e]; exact h
  · rw [e]
    obtain ⟨h1, h2, h3⟩ := okP_parts ho
    have hnm := atT_none ha
    have hlen := h.len
    have key : ∀ (i : Nat) (u : TD), (p.T ++ [t])[i]? = some u → (p.T[i]? = some u ∧ i < p.T.length) ∨ (i = p.T.length ∧ u = t) := by
      intro i u hu
      rcases Nat.lt_trichotomy i p.T.length with hi | hi | hi
      · rw [List.getElem?_append_left hi] at hu; exact .inl ⟨hu, hi⟩
      · subst hi
        simp at hu
        exact .inr ⟨rfl, hu.symm⟩
      · rw [List.getElem?_eq_none (by simp; omega)] at hu; cases hu
    have dm : ∀ l : List Int, (∀ k ∈ l, 0 ≤ k ∧ k < (p.T.length : Int)) → dmax (p.D ++ [dmax p.D (prtL t)]) l = dmax p.D l := fun l hl => dmax_app (D := p.D) (dmax p.D (prtL t)) l (fun k hk => by have := hl k hk; omega) 1
    have pl : ∀ (i : Nat) (u : TD), p.T[i]? = some u → ∀ k ∈ prtL u, 0 ≤ k ∧ k < (p.T.length : Int) := fun i u hu k hk => by
      have := h.part i u hu k hk
      have := (List.getElem?_eq_some_iff.1 hu).1
      omega
    refine ⟨by simp [hlen], by simp; omega, fun i u hu => ?_, fun i u hu => ?_, fun i u hu => ?_, fun d hd' => ?_, fun i j u hi hj => ?_, fun i j u v hi hj ku kv hn => ?_⟩
    · rcases key i u hu with ⟨q, _⟩ | ⟨_, rfl⟩
      · exact h.ok i u q
      · exact h1
    · rcases key i u hu with ⟨q, _⟩ | ⟨rfl, rfl⟩
      · exact h.part i u q
      · exact h2
    · dsimp only at hu ⊢
      rcases key i u hu with ⟨q, hi⟩ | ⟨rfl, rfl⟩
      · rw [List.getElem?_append_left (by omega), dm _ (pl i u q)]
        exact h.deep i u q
      · rw [dm _ h2, ← hlen]
        simp
    · dsimp only at hd'
      rw [List.mem_append, List.mem_singleton] at hd'
      rcases hd' with q | rfl
      · exact h.low d q
      · exact ⟨one_le_dmax _ _, hd⟩
    · rcases key i u hi with ⟨q1, l1⟩ | ⟨rfl, rfl⟩ <;> rcases key j _ hj with ⟨q2, l2⟩ | ⟨rfl, e2⟩
      · exact h.once i j u q1 q2
      · subst e2; exact absurd (List.mem_of_getElem? q1) hnm
      · exact absurd (List.mem_of_getElem? q2) hnm
      · rfl
    · have cl : ∀ (j : Nat) (v : TD), p.T[j]? = some v → v.kind = 1 → t.kind = 1 → v.n = t.n → v.w = t.w := by
        intro j v hv kv kt hnn
        have := h.wideF hv kv
        unfold clashB at h3
        rw [← hnn, this, kt] at h3
        simpa using h3
      rcases key i u hi with ⟨q1, l1⟩ | ⟨rfl, rfl⟩ <;> rcases key j v hj with ⟨q2, l2⟩ | ⟨rfl, rfl⟩
      · exact h.wide i j u v q1 q2 ku kv hn
      · exact cl i u q1 ku kv hn
      · exact (cl j v q2 kv ku hn.symm).symm
      · rfl
theorem putP_keeps {p : PS} (t : TD) {i : Nat} {u : TD} (h : p.T[i]? = some u) : (putP p t).T[i]? = some u := by
  rcases putP_cases p t with ⟨e, _⟩ | ⟨_, _, _, _, e, _⟩
  · rw [e]; exact h
  · rw [e]
    dsimp only
    rw [List.getElem?_append_left (List.getElem?_eq_some_iff.1 h).1]
    exact h
theorem putP_len (p : PS) (t : TD) : p.T.length ≤ (putP p t).T.length := by
  rcases putP_cases p t with ⟨e, _⟩ | ⟨_, _, _, _, e, _⟩ <;> rw [e]
  · exact Nat.le_refl _
  · simp
/-- What was put is there. -/
theorem putN_ok {p : PS} {t : TD} (h : (putN p t).2 = 0) : ∃ i : Nat, (putN p t).1 = i ∧ (putP p t).T[i]? = some t ∧ okP p.T t = true := by
  rcases putP_cases p t with ⟨e, ⟨_, q⟩ | ⟨ho, i, hi, _, q⟩ | ⟨_, _, _, q⟩⟩ | ⟨ho, _, _, _, e, q⟩
  · rw [q] at h; simp at h
  · exact ⟨i, by rw [q], by rw [e]; exact hi, ho⟩
  · rw [q] at h; simp at h
  · exact ⟨p.T.length, by rw [q], by rw [e]; simp, ho⟩
theorem okP_there {p : PS} (h : WfP p) {i : Nat} {t : TD} (ht : p.T[i]? = some t) : okP p.T t = true := by
  have hi := (List.getElem?_eq_some_iff.1 ht).1
  unfold okP
  simp only [Bool.and_eq_true, List.all_eq_true, Bool.not_eq_true']
  refine ⟨h.ok i t ht, fun k hk => ?_, ?_⟩
  · have := h.part i t ht k hk
    unfold hasB
    simp
    omega
  · unfold clashB
    by_cases hk : t.kind = 1
    · rw [h.wideF ht hk]; simp
    · have : (t.kind == 1) = false := by simpa using hk
      rw [this]; rfl
/-- What is there already is put again at its number, and nothing turns. -/
theorem put_there {p : PS} (h : WfP p) {i : Nat} {t : TD} (ht : p.T[i]? = some t) : putP p t = p ∧ putN p t = ((i : Int), 0) := by
  have ho := okP_there h ht
  obtain ⟨j, hj⟩ := atT_mem (List.mem_of_getElem? ht)
  have hij := h.once i j t ht (atT_some hj)
  subst hij
  rcases putP_cases p t with ⟨e, ⟨o, q⟩ | ⟨_, k, hk, ha, q⟩ | ⟨_, ha, _⟩⟩ | ⟨_, ha, _⟩
  · rw [ho] at o; cases o
  · rw [hj] at ha; injection ha with ha; subst ha; exact ⟨e, q⟩
  · rw [hj] at ha; cases ha
  · rw [hj] at ha; cases ha
/-- Terms put one behind the other. -/
def putAll (p : PS) : List TD → PS
  | [] => p
  | t :: r => putAll (putP p t) r
theorem WfP.putAll {p : PS} (h : WfP p) : ∀ l, WfP (putAll p l) := by
  intro l
  induction l generalizing p with
  | nil => exact h
  | cons t r ih => exact ih (h.put t)
theorem putAll_keeps {i : Nat} {u : TD} : ∀ (l : List TD) (p : PS), p.T[i]? = some u → (putAll p l).T[i]? = some u
  | [], p, h => h
  | t :: r, p, h => putAll_keeps r _ (putP_keeps t h)
theorem putAll_snoc : ∀ (l : List TD) (p : PS) (t : TD), putAll p (l ++ [t]) = putP (putAll p l) t
  | [], p, t => rfl
  | x :: r, p, t => putAll_snoc r _ t
theorem putAll_len : ∀ (l : List TD) (p : PS), p.T.length ≤ (putAll p l).T.length
  | [], p => Nat.le_refl _
  | t :: r, p => Nat.le_trans (putP_len p t) (putAll_len r _)
end Go.Proofs.Ytafbjcnonhpldaa
