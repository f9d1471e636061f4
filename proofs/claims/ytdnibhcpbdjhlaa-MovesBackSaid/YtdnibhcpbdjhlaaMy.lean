/-
  Plain words on circles counted by walking from each move's end, what has been seen being marked. Conditions: those written in each statement.
-/
import Derived.Test.YtdnibhcpbdjhlaaMc
namespace Go.Proofs.Ytdnibhcpbdjhlaa
set_option linter.unusedVariables false
set_option linter.unusedSimpArgs false
/-- What has been seen behind j moves; how many circles of it. -/
structure CS (l : List Mv) (S : Int → Int) (j c : Nat) : Prop where
  closed : ∀ x y, S x ≠ 0 → lk l x = some y → S y ≠ 0
  color : ∀ x, S x ≠ 0 → ∃ i z, i < j ∧ l[i]? = some z ∧ S x = z.1 + 1
  count : ∃ L : List Int, L.Nodup ∧ (∀ r, r ∈ L ↔ (Lst l r ∧ lk l r ≠ some r) ∧ S r ≠ 0) ∧ L.length = c
  heads : ∀ i z, i < j → l[i]? = some z → S z.1 ≠ 0
theorem CS.start (l : List Mv) : CS l (fun _ => 0) 0 0 :=
  ⟨fun x y h => absurd rfl h, fun x h => absurd rfl h, ⟨[], List.nodup_nil, fun r => by simp, rfl⟩, fun i z h => by omega⟩
theorem CS.done {l : List Mv} {S : Int → Int} {c : Nat} (h : CS l S l.length c) : CycN l c := by
  obtain ⟨L, h1, h2, h3⟩ := h.count
  refine ⟨L, h1, fun r => (h2 r).trans ⟨fun q => q.1, fun q => ⟨q, ?_⟩⟩, h3⟩
  obtain ⟨n, h0, hn⟩ := q.1.1
  cases hl : lk l r with
  | none =>
    obtain ⟨y, _, hy, _⟩ := onc_back q.1.1 1
    rw [itr, show itr l 0 r = some r from rfl] at hy
    change lk l r = some y at hy
    rw [hl] at hy
    cases hy
  | some f =>
    obtain ⟨i, hi, e⟩ := List.getElem_of_mem (lk_mem hl)
    exact h.heads i (r, f) hi (by rw [← e]; exact List.getElem?_eq_getElem hi)
theorem closed_itr {l : List Mv} {S : Int → Int} (h : ∀ x y, S x ≠ 0 → lk l x = some y → S y ≠ 0) : ∀ (n : Nat) (x y : Int), S x ≠ 0 → itr l n x = some y → S y ≠ 0
  | 0, x, y, hx, e => by injection e with e; rwa [← e]
  | n + 1, x, y, hx, e => by
    rw [itr] at e
    cases hk : itr l n x with
    | none => rw [hk] at e; cases e
    | some k =>
      rw [hk] at e
      exact h k y (closed_itr h n x k hx hk) e
def Vis (l : List Mv) (x : Int) (t : Nat) (y : Int) : Prop := ∃ i, i < t ∧ itr l i x = some y
/-- Within a walk from x: t places are new. -/
structure WS (l : List Mv) (S0 : Int → Int) (x : Int) (t : Nat) (S : Int → Int) : Prop where
  old : ∀ i y, i < t → itr l i x = some y → S0 y = 0
  new : ∀ y, Vis l x t y → S y = x + 1
  rest : ∀ y, ¬ Vis l x t y → S y = S0 y
  one : ∀ i j y, i < j → j < t → itr l i x = some y → itr l j x ≠ some y
  all : ∀ i, i ≤ t → ∃ y, itr l i x = some y
theorem WS.start (l : List Mv) (S0 : Int → Int) (x : Int) : WS l S0 x 0 S0 :=
  ⟨fun i y h => by omega, fun y ⟨i, h, _⟩ => by omega, fun y _ => rfl, fun i j y _ h => by omega, fun i h => ⟨x, by rw [show i = 0 by omega]; rfl⟩⟩
def putS (S : Int → Int) (x v : Int) : Int → Int := fun y => if y = x then v else S y
section
variable {l : List Mv} {S0 S : Int → Int} {x at_ : Int} {t : Nat}
theorem vis_succ (ha : itr l t x = some at_) (y : Int) : Vis l x (t + 1) y ↔ Vis l x t y ∨ y = at_ := by
  constructor
  · rintro ⟨i, hi, e⟩
    by_cases h : i = t
    · subst h
      rw [ha] at e
      injection e with e
      exact .inr e.symm
    · exact .inl ⟨i, by omega, e⟩
  · rintro (⟨i, hi, e⟩ | rfl)
    · exact ⟨i, by omega, e⟩
    · exact ⟨t, by omega, ha⟩
/-- A place that was not seen is marked. -/
theorem WS.mark (h : WS l S0 x t S) (hx : 0 ≤ x) (ha : itr l t x = some at_) (hs : S at_ = 0) : (∀ i y, i < t + 1 → itr l i x = some y → S0 y = 0) ∧ (∀ y, Vis l x (t + 1) y → putS S at_ (x + 1) y = x + 1) ∧ (∀ y, ¬ Vis l x (t + 1) y → putS S at_ (x + 1) y = S0 y) ∧ (∀ i j y, i < j → j < t + 1 → itr l i x = some y → itr l j x ≠ some y) := by
  have hnv : ¬ Vis l x t at_ := fun hv => by have := h.new _ hv; omega
  refine ⟨fun i y hi e => ?_, fun y hv => ?_, fun y hv => ?_, fun i j y hij hj e e2 => ?_⟩
  · by_cases hit : i = t
    · subst hit
      rw [ha] at e
      injection e with e
      subst e
      rw [← h.rest _ hnv]
      exact hs
    · exact h.old i y (by omega) e
  · unfold putS
    split
    · rfl
    · rename_i hne
      rcases (vis_succ ha y).1 hv with q | q
      · exact h.new y q
      · exact absurd q hne
  · unfold putS
    rw [if_neg (fun e => hv ((vis_succ ha y).2 (.inr e)))]
    exact h.rest y fun q => hv ((vis_succ ha y).2 (.inl q))
  · by_cases hjt : j = t
    · subst hjt
      rw [ha] at e2
      injection e2 with e2
      subst e2
      exact hnv ⟨i, hij, e⟩
    · exact h.one i j y hij (by omega) e e2
/-- .. and the walk goes on. -/
theorem WS.go (h : WS l S0 x t S) (hx : 0 ≤ x) (ha : itr l t x = some at_) (hs : S at_ = 0) {y : Int} (hy : lk l at_ = some y) : WS l S0 x (t + 1) (putS S at_ (x + 1)) ∧ itr l (t + 1) x = some y := by
  obtain ⟨a, b, c, d⟩ := h.mark hx ha hs
  have hn : itr l (t + 1) x = some y := by rw [itr, ha]; exact hy
  refine ⟨⟨a, b, c, d, fun i hi => ?_⟩, hn⟩
  by_cases hit : i = t + 1
  · subst hit; exact ⟨y, hn⟩
  · exact h.all i (by omega)
/-- No more places than moves. -/
theorem WS.le (h : WS l S0 x t S) : t ≤ l.length := by
  have hto : ∀ i, i < t → ∃ y, itr l i x = some y ∧ y ∈ l.map (·.1) := by
    intro i hi
    obtain ⟨y, hy⟩ := h.all i (by omega)
    obtain ⟨z, hz⟩ := h.all (i + 1) (by omega)
    refine ⟨y, hy, ?_⟩
    rw [itr, hy] at hz
    change lk l y = some z at hz
    exact List.mem_map.2 ⟨_, lk_mem hz, rfl⟩
  have hnd : ((List.range t).map fun n => (itr l n x).getD 0).Nodup := by
    unfold List.Nodup
    rw [List.pairwise_map]
    have hp : (List.range t).Pairwise fun a b => a < b ∧ b < t := by
      refine List.Pairwise.imp_of_mem ?_ (List.pairwise_lt_range (n := t))
      intro a b ha hb hab
      exact ⟨hab, List.mem_range.1 hb⟩
    refine List.Pairwise.imp ?_ hp
    intro i j ⟨hij, hj⟩ e
    obtain ⟨p, hp, _⟩ := hto i (by omega)
    obtain ⟨q, hq, _⟩ := hto j hj
    rw [hp, hq] at e
    have : p = q := by simpa using e
    subst this
    exact h.one i j p hij hj hp hq
  have := pig_le hnd (F := l.map (·.1)) fun y hy => by
    obtain ⟨i, hi, rfl⟩ := List.mem_map.1 hy
    obtain ⟨q, hq, hm⟩ := hto i (List.mem_range.1 hi)
    rw [hq]
    exact hm
  simpa using this
theorem seen_iff (hx : 0 ≤ x) {S1 : Int → Int} {u : Nat} (hn : ∀ y, Vis l x u y → S1 y = x + 1) (hr : ∀ y, ¬ Vis l x u y → S1 y = S0 y) (y : Int) : S1 y ≠ 0 ↔ Vis l x u y ∨ S0 y ≠ 0 := by
  by_cases hv : Vis l x u y
  · rw [hn y hv]
    exact ⟨fun _ => .inl hv, fun _ => by omega⟩
  · rw [hr y hv]
    exact ⟨.inr, fun q => q.resolve_left hv⟩
/-- What stays the same however a walk ends. -/
theorem CS.more {j c c' : Nat} {z : Mv} {u : Nat} {S1 : Int → Int} (h : CS l S0 j c) (hz : l[j]? = some z) (hx : 0 ≤ z.1) (hn : ∀ y, Vis l z.1 u y → S1 y = z.1 + 1) (hr : ∀ y, ¬ Vis l z.1 u y → S1 y = S0 y)
    (hcl : ∀ a b, Vis l z.1 u a → lk l a = some b → Vis l z.1 u b ∨ S0 b ≠ 0) (hh : Vis l z.1 u z.1 ∨ S0 z.1 ≠ 0)
    (hc : ∃ L : List Int, L.Nodup ∧ (∀ r, r ∈ L ↔ (Lst l r ∧ lk l r ≠ some r) ∧ S1 r ≠ 0) ∧ L.length = c') : CS l S1 (j + 1) c' := by
  have hs := seen_iff hx hn hr
  refine ⟨fun a b ha hab => ?_, fun a ha => ?_, hc, fun i w hi hw => ?_⟩
  · rcases (hs a).1 ha with q | q
    · exact (hs b).2 (hcl a b q hab)
    · exact (hs b).2 (.inr (h.closed a b q hab))
  · by_cases hv : Vis l z.1 u a
    · exact ⟨j, z, by omega, hz, hn a hv⟩
    · rw [hr a hv] at ha ⊢
      obtain ⟨i, w, h1, h2, h3⟩ := h.color a ha
      exact ⟨i, w, by omega, h2, h3⟩
  · by_cases hij : i = j
    · subst hij
      rw [hz] at hw
      injection hw with hw
      subst hw
      exact (hs _).2 hh
    · exact (hs _).2 (.inr (h.heads i w (by omega) hw))
/-- Nothing new stands on a circle: as many as before. -/
theorem count_same {S1 : Int → Int} {u c : Nat} (hx : 0 ≤ x) (hn : ∀ y, Vis l x u y → S1 y = x + 1) (hr : ∀ y, ¬ Vis l x u y → S1 y = S0 y) (hno : ∀ y, Vis l x u y → ¬ (Lst l y ∧ lk l y ≠ some y))
    (h : ∃ L : List Int, L.Nodup ∧ (∀ r, r ∈ L ↔ (Lst l r ∧ lk l r ≠ some r) ∧ S0 r ≠ 0) ∧ L.length = c) : ∃ L : List Int, L.Nodup ∧ (∀ r, r ∈ L ↔ (Lst l r ∧ lk l r ≠ some r) ∧ S1 r ≠ 0) ∧ L.length = c := by
  obtain ⟨L, h1, h2, h3⟩ := h
  refine ⟨L, h1, fun r => (h2 r).trans ⟨fun q => ⟨q.1, (seen_iff hx hn hr r).2 (.inr q.2)⟩, fun q => ⟨q.1, ?_⟩⟩, h3⟩
  rcases (seen_iff hx hn hr r).1 q.2 with v | v
  · exact absurd q.1 (hno r v)
  · exact v
theorem vis_next {u : Nat} {a b : Int} (hv : Vis l x u a) (hab : lk l a = some b) : ∃ i, i ≤ u ∧ 0 < i ∧ itr l i x = some b := by
  obtain ⟨i, hi, e⟩ := hv
  exact ⟨i + 1, by omega, by omega, by rw [itr, e]; exact hab⟩
theorem vis_to {t : Nat} (ha : itr l t x = some at_) {y : Int} (hv : Vis l x t y) : ∃ n, itr l n y = some at_ := by
  obtain ⟨i, hi, e⟩ := hv
  rw [show t = i + (t - i) by omega, itr_add, e] at ha
  exact ⟨_, ha⟩
/-- The walk ends where nothing comes from. -/
theorem CS.dead {j c : Nat} {z : Mv} (h : CS l S0 j c) (hz : l[j]? = some z) (hx : 0 ≤ z.1) (hw : WS l S0 z.1 t S) (ha : itr l t z.1 = some at_) (hs : S at_ = 0) (hl : lk l at_ = none) : CS l (putS S at_ (z.1 + 1)) (j + 1) c := by
  obtain ⟨a, b, cc, d⟩ := hw.mark hx ha hs
  refine h.more hz hx b cc (fun p q hv hpq => ?_) (.inl ⟨0, by omega, rfl⟩) (count_same hx b cc (fun y hv hy => ?_) h.count)
  · left
    rcases (vis_succ ha p).1 hv with ⟨i, hi, e⟩ | rfl
    · exact ⟨i + 1, by omega, by rw [itr, e]; exact hpq⟩
    · rw [hl] at hpq; cases hpq
  · obtain ⟨n, hn⟩ : ∃ n, itr l n y = some at_ := by
      rcases (vis_succ ha y).1 hv with q | rfl
      · exact vis_to ha q
      · exact ⟨0, rfl⟩
    obtain ⟨w, _, hw', _⟩ := onc_back hy.1.1 (n + 1)
    rw [itr, hn] at hw'
    change lk l at_ = some w at hw'
    rw [hl] at hw'
    cases hw'
/-- The walk ends at what an earlier walk has seen. -/
theorem CS.old {j c : Nat} {z : Mv} (h : CS l S0 j c) (hz : l[j]? = some z) (hx : 0 ≤ z.1) (hw : WS l S0 z.1 t S) (ha : itr l t z.1 = some at_) (hs : S0 at_ ≠ 0) : CS l S (j + 1) c := by
  refine h.more hz hx hw.new hw.rest (fun p q hv hpq => ?_) ?_ (count_same hx hw.new hw.rest (fun y hv hy => ?_) h.count)
  · obtain ⟨i, hi, e⟩ := hv
    by_cases hit : i + 1 = t
    · right
      rw [← hit, itr, e] at ha
      change lk l p = some at_ at ha
      rw [hpq] at ha
      injection ha with ha
      rw [ha]
      exact hs
    · left
      exact ⟨i + 1, by omega, by rw [itr, e]; exact hpq⟩
  · by_cases h0 : t = 0
    · subst h0
      injection ha with ha
      rw [ha]
      exact .inr hs
    · exact .inl ⟨0, by omega, rfl⟩
  · obtain ⟨n, hn⟩ := vis_to ha hv
    obtain ⟨_, m, hm⟩ := onc_step hy.1.1 hn
    obtain ⟨i, hi, e⟩ := hv
    exact closed_itr h.closed m at_ y hs hm (hw.old i y hi e)
/-- The walk has come round. -/
theorem CS.round {j c : Nat} {z : Mv} (h : CS l S0 j c) (hz : l[j]? = some z) (hx : 0 ≤ z.1) (hw : WS l S0 z.1 t S) (ha : itr l t z.1 = some at_) (hv : Vis l z.1 t at_) : CS l S (j + 1) (if lk l at_ = some at_ then c else c + 1) := by
  have hto : OnC l at_ := by
    obtain ⟨i, hi, e⟩ := hv
    have := ha
    rw [show t = i + (t - i) by omega, itr_add, e] at this
    exact ⟨t - i, by omega, this⟩
  have hcl : ∀ p q, Vis l z.1 t p → lk l p = some q → Vis l z.1 t q := by
    intro p q hp hpq
    obtain ⟨i, hi, e⟩ := hp
    by_cases hit : i + 1 = t
    · have h2 := ha
      rw [← hit, itr, e] at h2
      change lk l p = some at_ at h2
      rw [hpq] at h2
      injection h2 with h2
      rw [h2]
      exact hv
    · exact ⟨i + 1, by omega, by rw [itr, e]; exact hpq⟩
  have hh : Vis l z.1 t z.1 := by
    obtain ⟨i, hi, _⟩ := hv
    exact ⟨0, by omega, rfl⟩
  refine h.more hz hx hw.new hw.rest (fun p q hp hpq => .inl (hcl p q hp hpq)) (.inl hh) ?_
  have hsame : ∀ y, Vis l z.1 t y → Lst l y → ∃ n, itr l n at_ = some y := by
    intro y hy hl
    obtain ⟨n, hn⟩ := vis_to ha hy
    obtain ⟨_, m, hm⟩ := onc_step hl.1 hn
    exact ⟨m, hm⟩
  by_cases hself : lk l at_ = some at_
  · rw [if_pos hself]
    have hst : ∀ n, itr l n at_ = some at_ := by
      intro n
      induction n with
      | zero => rfl
      | succ n ih => rw [itr, ih]; exact hself
    refine count_same hx hw.new hw.rest (fun y hy hl => ?_) h.count
    obtain ⟨n, hn⟩ := hsame y hy hl.1
    rw [hst n] at hn
    injection hn with hn
    subst hn
    exact hl.2 hself
  · rw [if_neg hself]
    have hin : ∀ n q, itr l n at_ = some q → q ∈ l.map (·.1) ∧ Vis l z.1 t q := by
      intro n q hq
      have hon := (onc_step hto hq).1
      refine ⟨?_, ?_⟩
      · obtain ⟨y, _, hy, _⟩ := onc_back hon 1
        rw [itr, show itr l 0 q = some q from rfl] at hy
        exact List.mem_map.2 ⟨_, lk_mem (l := l) hy, rfl⟩
      · clear hon
        induction n generalizing q with
        | zero => injection hq with hq; rw [← hq]; exact hv
        | succ n ih =>
          rw [itr] at hq
          cases hk : itr l n at_ with
          | none => rw [hk] at hq; cases hq
          | some k =>
            rw [hk] at hq
            exact hcl k q (ih k hk) hq
    obtain ⟨m, hm, ⟨i, hi⟩, hmin⟩ := exists_min (fun q => ∃ n, itr l n at_ = some q) (l.map (·.1)) ⟨at_, (hin 0 at_ rfl).1, 0, rfl⟩
    have hmo := onc_step hto hi
    have hml : Lst l m := by
      refine ⟨hmo.1, fun n q hq => ?_⟩
      have hq2 : itr l (i + n) at_ = some q := by rw [itr_add, hi]; exact hq
      exact hmin q (hin _ q hq2).1 ⟨_, hq2⟩
    have hmv := (hin i m hi).2
    have hmn : lk l m ≠ some m := by
      intro e
      have hst : ∀ n, itr l n m = some m := by
        intro n
        induction n with
        | zero => rfl
        | succ n ih => rw [itr, ih]; exact e
      obtain ⟨_, k, hk⟩ := hmo
      rw [hst k] at hk
      injection hk with hk
      subst hk
      exact hself e
    have huniq : ∀ r, Vis l z.1 t r → Lst l r → r = m := by
      intro r hr hl
      obtain ⟨k, hk⟩ := hsame r hr hl
      obtain ⟨u, hu⟩ := vis_to ha hr
      have a1 : r ≤ m := hl.2 (u + i) m (by rw [itr_add, hu]; exact hi)
      obtain ⟨_, v, hvv⟩ := hmo
      have a2 : m ≤ r := hml.2 (v + k) r (by rw [itr_add, hvv]; exact hk)
      omega
    obtain ⟨L, h1, h2, h3⟩ := h.count
    have hm0 : S0 m = 0 := by
      obtain ⟨i, hi, e⟩ := hmv
      exact hw.old i m hi e
    refine ⟨m :: L, List.nodup_cons.2 ⟨fun q => ((h2 m).1 q).2 hm0, h1⟩, fun r => ?_, by rw [List.length_cons, h3]⟩
    rw [List.mem_cons, h2 r]
    have hs := seen_iff hx hw.new hw.rest r
    constructor
    · rintro (rfl | q)
      · exact ⟨⟨hml, hmn⟩, hs.2 (.inl hmv)⟩
      · exact ⟨q.1, hs.2 (.inr q.2)⟩
    · rintro ⟨q1, q2⟩
      rcases hs.1 q2 with v | v
      · exact .inl (huniq r v q1.1)
      · exact .inr ⟨q1, v⟩
/-- At a walk's end what is marked with the walk's own mark is what it has seen itself. -/
theorem WS.own {j c : Nat} {z : Mv} (h : CS l S0 j c) (hn : (l.map (·.1)).Nodup) (hz : l[j]? = some z) (hx : 0 ≤ z.1) (hw : WS l S0 z.1 t S) (hs : S at_ ≠ 0) : (S at_ = z.1 + 1 ↔ Vis l z.1 t at_) ∧ (¬ Vis l z.1 t at_ → S0 at_ ≠ 0) := by
  have h2 : ¬ Vis l z.1 t at_ → S0 at_ ≠ 0 := fun hv => by rw [← hw.rest _ hv]; exact hs
  refine ⟨⟨fun e => ?_, hw.new _⟩, h2⟩
  refine Classical.byContradiction fun hv => ?_
  obtain ⟨i, w, hi, hwi, e2⟩ := h.color at_ (h2 hv)
  rw [hw.rest _ hv, e2] at e
  have h1 := (List.getElem?_eq_some_iff.1 hwi)
  have h3 := (List.getElem?_eq_some_iff.1 hz)
  obtain ⟨a1, a2⟩ := h1
  obtain ⟨b1, b2⟩ := h3
  unfold List.Nodup at hn
  rw [List.pairwise_iff_getElem] at hn
  have := hn i j (by rw [List.length_map]; omega) (by rw [List.length_map]; omega) hi
  rw [List.getElem_map, List.getElem_map, a2, b2] at this
  exact this (by omega)
end
end Go.Proofs.Ytdnibhcpbdjhlaa
